/-
  A store's steps, as they are called; the least sets. A store's Least, One, Free, walked.
-/
import Derived.Test.YtdlcldhnbhlikaaDoorFamJn
namespace Go.Proofs.YtdlcldhnbhlikaaDoor
open Go.RowKit Go.Maps

open Classical in
/-- Those sets of which no other one is a part. -/
noncomputable def leastG (F : Nat → Bool) (s : Nat) : Bool := F s && decide (∀ t, F t = true → subN t s = true → t = s)
theorem leastG_iff {F : Nat → Bool} {s : Nat} : leastG F s = true ↔ F s = true ∧ ∀ t, F t = true → subN t s = true → t = s := by
  simp [leastG]
theorem sub_le {t s : Nat} (h : subN t s = true) : t ≤ s := by
  unfold subN at h
  rw [beq_iff_eq] at h
  rw [← h]
  exact Nat.and_le_right
theorem sub_trans {a b c : Nat} (h1 : subN a b = true) (h2 : subN b c = true) : subN a c = true := subN_iff.2 fun y h => subN_iff.1 h2 y (subN_iff.1 h1 y h)
/-- Below each set there is a least one. -/
theorem least_ex (F : Nat → Bool) : ∀ (n t : Nat), t ≤ n → F t = true → ∃ u, leastG F u = true ∧ subN u t = true := by
  intro n
  induction n with
  | zero =>
    intro t ht hF
    exact ⟨t, leastG_iff.2 ⟨hF, fun u _ hs => by have := sub_le hs; omega⟩, sub_self t⟩
  | succ n ih =>
    intro t ht hF
    by_cases h : leastG F t = true
    · exact ⟨t, h, sub_self t⟩
    · have h2 : ¬ ∀ u, F u = true → subN u t = true → u = t := fun e => h (leastG_iff.2 ⟨hF, e⟩)
      have h2 : ∃ u, ¬ (F u = true → subN u t = true → u = t) := Classical.byContradiction fun e => h2 fun u => Classical.byContradiction fun e2 => e ⟨u, e2⟩
      obtain ⟨u, h2⟩ := h2
      have h3 : F u = true := Classical.byContradiction fun e => h2 fun e2 => absurd e2 e
      have h4 : subN u t = true := Classical.byContradiction fun e => h2 fun _ e2 => absurd e2 e
      have h5 : u ≠ t := fun e => h2 fun _ _ => e
      have := sub_le h4
      obtain ⟨x, h6, h7⟩ := ih u (by omega) h3
      exact ⟨x, h6, sub_trans h7 h4⟩
theorem sub_clr_not {t s v : Nat} (ht : t.testBit v = false) : subN t (clrN s v) = subN t s := by
  rw [Bool.eq_iff_iff, subN_iff, subN_iff]
  constructor
  · intro h y hy
    have := h y hy
    rw [clr_bit, Bool.and_eq_true] at this
    exact this.1
  · intro h y hy
    rw [clr_bit, h y hy]
    by_cases e : v = y
    · subst e; rw [ht] at hy; cases hy
    · simp [e]
theorem put_inj {t s v : Nat} (hs : s.testBit v = true) (h : t = clrN s v) : putN t v = s := by rw [h, put_clr hs]
/-- The least sets, thing by thing. -/
theorem least_part {F FL FH : Nat → Bool} {v : Nat} (hF : ∀ s, F s = if s.testBit v then FH (clrN s v) else FL s) (nL : ∀ t, FL t = true → t.testBit v = false) (nH : ∀ t, FH t = true → t.testBit v = false) (s : Nat) :
    leastG F s = if s.testBit v then freeG (leastG FH) (leastG FL) (clrN s v) else leastG FL s := by
  by_cases hb : s.testBit v = true
  · rw [if_pos hb, Bool.eq_iff_iff, leastG_iff, freeG_iff, leastG_iff, hF, if_pos hb]
    constructor
    · rintro ⟨h1, h2⟩
      refine ⟨⟨h1, fun t ht hs => ?_⟩, fun t ht => ?_⟩
      · have e := h2 (putN t v) (by rw [hF, if_pos (by rw [put_bit]; simp), clr_put (nH t ht)]; exact ht) (by rw [sub_clr hb, clr_put (nH t ht)]; exact hs)
        rw [← e, clr_put (nH t ht)]
      · cases hs : subN t (clrN s v) with
        | false => rfl
        | true =>
          have ht2 := (leastG_iff.1 ht).1
          rw [sub_clr_not (nL t ht2)] at hs
          have e := h2 t (by rw [hF, if_neg (by rw [nL t ht2]; simp)]; exact ht2) hs
          rw [← e, nL t ht2] at hb
          cases hb
    · rintro ⟨⟨h1, h2⟩, h3⟩
      refine ⟨h1, fun t ht hs => ?_⟩
      rw [hF] at ht
      by_cases hbt : t.testBit v = true
      · rw [if_pos hbt] at ht
        rw [sub_clr hb] at hs
        have e := h2 _ ht hs
        rw [← put_clr hbt, e, put_clr hb]
      · rw [if_neg hbt] at ht
        obtain ⟨u, hu, hs2⟩ := least_ex FL t t (Nat.le_refl _) ht
        have hu2 := (leastG_iff.1 hu).1
        have := h3 u hu
        rw [sub_clr_not (nL u hu2), sub_trans hs2 hs] at this
        cases this
  · have hb' : s.testBit v = false := by simpa using hb
    rw [if_neg hb, Bool.eq_iff_iff, leastG_iff, leastG_iff, hF, if_neg hb]
    constructor
    · rintro ⟨h1, h2⟩
      exact ⟨h1, fun t ht hs => h2 t (by rw [hF, if_neg (by rw [nL t ht]; simp)]; exact ht) hs⟩
    · rintro ⟨h1, h2⟩
      refine ⟨h1, fun t ht hs => h2 t ?_ hs⟩
      rw [hF, if_neg (by rw [sub_not hb' hs]; simp)] at ht
      exact ht
section
variable {A A1 A2 A3 A4 : Ar} {things h lo hi x y : Int} {c1 c2 c3 c4 : Nat} {t1 t2 t3 : Int} {d : Nd}
theorem least_join (hs : SpZ A things) (hg : gotA A h = some d)
    (T1 : StpZ A A1 things c1 t1 lo (leastG (fam A d.low))) (T2 : StpZ A1 A2 things c2 t2 hi (leastG (fam A1 d.high)))
    (T3 : StpZ A2 A3 things c3 t3 y (freeG (fam A2 hi) (fam A2 lo))) (T4 : StpZ A3 A4 things c4 d.var x (nodeZ A3 ⟨d.var, lo, y⟩)) : StpZ A A4 things (c1 + c2 + c3 + c4) d.var x (leastG (fam A h)) := by
  have hl := hs.wf.low _ _ hg
  have hh := hs.wf.high _ _ hg
  have hd := hs.wf.dep hg
  have htp := top_some hg
  refine ⟨T4.sp, ((T1.ext.trans T2.ext).trans T3.ext).trans T4.ext, ?_, T4.has, T4.top, fun s => ?_⟩
  · have := T1.few; have := T2.few; have := T3.few; have := T4.few; omega
  have h0 : 0 ≤ d.var := by have := (hs.wf.topR h).1; omega
  have e1 : fam A3 lo = leastG (fam A d.low) := by
    rw [T2.sp.fun_ T3.sp T3.ext (T2.ext.has T1.has), T1.sp.fun_ T2.sp T2.ext T1.has]
    exact funext T1.fam
  have e2 : fam A2 hi = leastG (fam A d.high) := by
    rw [← hs.fun_ T1.sp T1.ext hh.1]
    exact funext T2.fam
  have e3 : fam A2 lo = leastG (fam A d.low) := by
    rw [T1.sp.fun_ T2.sp T2.ext T1.has]
    exact funext T1.fam
  rw [T4.fam]
  unfold nodeZ
  simp only
  rw [T3.fam, e1, e2, e3]
  exact (least_part (F := fam A h) (FL := fam A d.low) (FH := fam A d.high) (v := d.var.toNat) (fun s => fam_some hs.wf hg) (fun t ht => fam_top hs.wf _ _ t (Nat.le_refl _) ht _ (by omega)) (fun t ht => fam_top hs.wf _ _ t (Nat.le_refl _) ht _ (by omega)) s).symm
theorem least_end (hg : gotA A h = none) (s : Nat) : leastG (fam A h) s = fam A h s := by
  rw [Bool.eq_iff_iff, leastG_iff]
  refine ⟨fun e => e.1, fun e => ⟨e, fun t ht _ => ?_⟩⟩
  rw [fam_none hg] at e ht
  simp at e ht
  rw [e.2, ht.2]
end
def lsN : Nat → Nat
  | 0 => 0
  | n + 1 => 2 * lsN n + c3N n + 1
theorem lsN_mono {a b : Nat} (h : a ≤ b) : lsN a ≤ lsN b := by
  induction h with
  | refl => exact Nat.le_refl _
  | step _ ih => show _ ≤ 2 * lsN _ + c3N _ + 1; omega
theorem ls_kids {t t1 t2 t3 : Int} (h0 : 0 ≤ t) (h1 : t < t1) (h2 : t < t2) (h3 : t < t3) : lsN (kT t1) + lsN (kT t2) + c3N (kT t3) + (if t < 3 then 1 else 0) ≤ lsN (kT t) := by
  by_cases h : t < 3
  · rw [if_pos h]
    obtain ⟨j, hj⟩ : ∃ j, kT t = j + 1 := ⟨kT t - 1, by unfold kT; omega⟩
    have e1 := lsN_mono (show kT t1 ≤ j by unfold kT at *; omega)
    have e2 := lsN_mono (show kT t2 ≤ j by unfold kT at *; omega)
    have e3 := c3N_mono (show kT t3 ≤ j by unfold kT at *; omega)
    rw [hj]
    show _ ≤ 2 * lsN j + c3N j + 1
    omega
  · rw [if_neg h, show kT t = 0 by unfold kT; omega, show kT t1 = 0 by unfold kT; omega, show kT t2 = 0 by unfold kT; omega, show kT t3 = 0 by unfold kT; omega]
    exact Nat.le_refl _
section
variable (S B gn gu gt : Nat) (things : Int) (A : Ar) (w : World)
theorem mxFree : MxOk opFree 60 61 S B gn gu gt things :=
  ⟨okFree, endsFree, fun args w => enters_of Tryd.func61 (by kernel_rfl) rfl args w, fun K _ hf t ih => mixFree_any K S B gn gu gt things hf t ih⟩
theorem mxJoin : MxOk opJoin 35 36 S B gn gu gt things :=
  ⟨okJoin, endsJoin, fun args w => enters_of Tryd.func36 (by kernel_rfl) rfl args w, fun K _ hf t ih => mixJoin_any K S B gn gu gt things hf t ih⟩
set_option maxRecDepth 100000 in
set_option maxHeartbeats 2000000 in
theorem fzLess_in (a b : Int) (h : FsM w S B gn gu gt things A) (pa : hasA A a = true) (pb : hasA A b = true) (hl : low3 A + c2N (kT (topZ A a b)) ≤ 2000) :
    Calls Tryd.prog 34 #[.pointer (some ⟨S, 0, none⟩), .int .i64 a, .int .i64 b] w (OpZP opLess w S B gn gu gt things A a b) := by
  have hmf : ∀ (fn : Fn) (first cap : Array Value) (w : World), (Instr.makeFunc fn first cap).run Tryd.prog w = .ok (.func fn first cap) w := by intros; rfl
  have hal := (Below.refl w.heap.size w).alloc (Nat.le_refl _) (.cells #[.pointer (some ⟨S, 0, none⟩)] 23)
  have HC := hide (fzWalk_any S B gn gu gt things A _ opLess 58 59 a b w.heap.size (mxLess S B gn gu gt things) (h.below hal) (Blk.new w _ _) pa pb hl)
  have HD := hide hal
  clear h hal
  go_enter Tryd.func34, Tryd.ntmps34
  go_wp2_with fail
  refine (HC.out).mono ?_
  rintro e w7 hq
  have HQ := hide (show OpZP opLess w S B gn gu gt things A a b e w7 from ZP.from_ HD.out hq)
  obtain ⟨A', x, rfl, -⟩ := hq
  go_wp2
  go_ret2
  exact HQ.out
set_option maxRecDepth 100000 in
set_option maxHeartbeats 2000000 in
theorem fzFree_in (a b : Int) (h : FsM w S B gn gu gt things A) (pa : hasA A a = true) (pb : hasA A b = true) (hl : low3 A + c3N (kT (topZ A a b)) ≤ 2000) :
    Calls Tryd.prog 37 #[.pointer (some ⟨S, 0, none⟩), .int .i64 a, .int .i64 b] w (OpZP opFree w S B gn gu gt things A a b) := by
  have hmf : ∀ (fn : Fn) (first cap : Array Value) (w : World), (Instr.makeFunc fn first cap).run Tryd.prog w = .ok (.func fn first cap) w := by intros; rfl
  have hal := (Below.refl w.heap.size w).alloc (Nat.le_refl _) (.cells #[.pointer (some ⟨S, 0, none⟩)] 23)
  have HC := hide (fzWalk_any S B gn gu gt things A _ opFree 60 61 a b w.heap.size (mxFree S B gn gu gt things) (h.below hal) (Blk.new w _ _) pa pb hl)
  have HD := hide hal
  clear h hal
  go_enter Tryd.func37, Tryd.ntmps37
  go_wp2_with fail
  refine (HC.out).mono ?_
  rintro e w7 hq
  have HQ := hide (show OpZP opFree w S B gn gu gt things A a b e w7 from ZP.from_ HD.out hq)
  obtain ⟨A', x, rfl, -⟩ := hq
  go_wp2
  go_ret2
  exact HQ.out
theorem has_call_z (x : Int) (h : FsM w S B gn gu gt things A) (p : hasA A x = true) : Calls Tryd.prog 39 #[.pointer (some ⟨B, 0, none⟩), .int .i64 x] w (fun e w' => e = .returned (.bool true) ∧ w = w') :=
  (arHas_any B gn gu gt A x w h.ar (h.i64 p)).mono (fun e w' ⟨e1, e2⟩ => ⟨by rw [e1, p], e2⟩)
set_option maxHeartbeats 2000000 in
theorem fzBoth_ok (a b : Int) (h : FsM w S B gn gu gt things A) (pa : hasA A a = true) (pb : hasA A b = true) :
    Calls Tryd.prog 28 #[.pointer (some ⟨S, 0, none⟩), .int .i64 a, .int .i64 b] w (fun e w' => e = .returned .nilIface ∧ w = w') := by
  have s0 := h.kS.cell 0
  have HA := hide (has_call_z S B gn gu gt things A w a h pa)
  have HB := hide (has_call_z S B gn gu gt things A w b h pb)
  clear h
  go_enter Tryd.func28, Tryd.ntmps28
  go_wp2_with fail
  refine (HA.out).mono ?_
  rintro e w1 ⟨rfl, rfl⟩
  go_wp2_with fail
  refine (HB.out).mono ?_
  rintro e w1 ⟨rfl, rfl⟩
  go_wp2
  go_ret
  exact ⟨rfl, rfl⟩
set_option maxRecDepth 100000 in
set_option maxHeartbeats 2000000 in
theorem fzOr_any (a b : Int) (h : FsM w S B gn gu gt things A) (pa : hasA A a = true) (pb : hasA A b = true) (hl : low3 A + c2N (kT (topZ A a b)) ≤ 2000) :
    Calls Tryd.prog 7 #[.pointer (some ⟨S, 0, none⟩), .int .i64 a, .int .i64 b] w (OpZP opOr w S B gn gu gt things A a b) := by
  have HB := hide (fzBoth_ok S B gn gu gt things A w a b h pa pb)
  have HC := hide (fzOr_in S B gn gu gt things A w a b h pa pb hl)
  clear h
  go_enter Tryd.func7, Tryd.ntmps7
  go_wp2_with fail
  refine (HB.out).mono ?_
  rintro e w1 ⟨rfl, rfl⟩
  go_wp2_with fail
  refine (HC.out).mono ?_
  rintro e w7 hq
  have HQ := hide hq
  obtain ⟨A', x, rfl, -⟩ := hq
  go_wp2
  go_ret2
  exact HQ.out
set_option maxRecDepth 100000 in
set_option maxHeartbeats 2000000 in
theorem fzLess_any (a b : Int) (h : FsM w S B gn gu gt things A) (pa : hasA A a = true) (pb : hasA A b = true) (hl : low3 A + c2N (kT (topZ A a b)) ≤ 2000) :
    Calls Tryd.prog 9 #[.pointer (some ⟨S, 0, none⟩), .int .i64 a, .int .i64 b] w (OpZP opLess w S B gn gu gt things A a b) := by
  have HB := hide (fzBoth_ok S B gn gu gt things A w a b h pa pb)
  have HC := hide (fzLess_in S B gn gu gt things A w a b h pa pb hl)
  clear h
  go_enter Tryd.func9, Tryd.ntmps9
  go_wp2_with fail
  refine (HB.out).mono ?_
  rintro e w1 ⟨rfl, rfl⟩
  go_wp2_with fail
  refine (HC.out).mono ?_
  rintro e w7 hq
  have HQ := hide hq
  obtain ⟨A', x, rfl, -⟩ := hq
  go_wp2
  go_ret2
  exact HQ.out
set_option maxRecDepth 100000 in
set_option maxHeartbeats 2000000 in
theorem fzWithout_any (a b : Int) (h : FsM w S B gn gu gt things A) (pa : hasA A a = true) (pb : hasA A b = true) (hl : low3 A + c3N (kT (topZ A a b)) ≤ 2000) :
    Calls Tryd.prog 11 #[.pointer (some ⟨S, 0, none⟩), .int .i64 a, .int .i64 b] w (OpZP opFree w S B gn gu gt things A a b) := by
  have HB := hide (fzBoth_ok S B gn gu gt things A w a b h pa pb)
  have HC := hide (fzFree_in S B gn gu gt things A w a b h pa pb hl)
  clear h
  go_enter Tryd.func11, Tryd.ntmps11
  go_wp2_with fail
  refine (HB.out).mono ?_
  rintro e w1 ⟨rfl, rfl⟩
  go_wp2_with fail
  refine (HC.out).mono ?_
  rintro e w7 hq
  have HQ := hide hq
  obtain ⟨A', x, rfl, -⟩ := hq
  go_wp2
  go_ret2
  exact HQ.out
set_option maxRecDepth 100000 in
set_option maxHeartbeats 2000000 in
theorem fzAnd_any (a b : Int) (h : FsM w S B gn gu gt things A) (pa : hasA A a = true) (pb : hasA A b = true) (hl : low3 A + c2N (kT (topZ A a b)) ≤ 2000) :
    Calls Tryd.prog 8 #[.pointer (some ⟨S, 0, none⟩), .int .i64 a, .int .i64 b] w (OpZP opAnd w S B gn gu gt things A a b) := by
  have hmf : ∀ (fn : Fn) (first cap : Array Value) (w : World), (Instr.makeFunc fn first cap).run Tryd.prog w = .ok (.func fn first cap) w := by intros; rfl
  have hal := (Below.refl w.heap.size w).alloc (Nat.le_refl _) (.cells #[.pointer (some ⟨S, 0, none⟩)] 23)
  have HB := hide (fzBoth_ok S B gn gu gt things A _ a b (h.below hal) pa pb)
  have HC := hide (fzWalk_any S B gn gu gt things A _ opAnd 31 32 a b w.heap.size (mxAnd S B gn gu gt things) (h.below hal) (Blk.new w _ _) pa pb hl)
  have HD := hide hal
  clear h hal
  go_enter Tryd.func8, Tryd.ntmps8
  go_wp2_with fail
  refine (HB.out).mono ?_
  rintro e w1 ⟨rfl, rfl⟩
  go_wp2_with fail
  refine (HC.out).mono ?_
  rintro e w7 hq
  have HQ := hide (show OpZP opAnd w S B gn gu gt things A a b e w7 from ZP.from_ HD.out hq)
  obtain ⟨A', x, rfl, -⟩ := hq
  go_wp2
  go_ret2
  exact HQ.out
set_option maxRecDepth 100000 in
set_option maxHeartbeats 2000000 in
theorem fzJoin_any (a b : Int) (h : FsM w S B gn gu gt things A) (pa : hasA A a = true) (pb : hasA A b = true) (hl : low3 A + c4N (kT (topZ A a b)) ≤ 2000) :
    Calls Tryd.prog 10 #[.pointer (some ⟨S, 0, none⟩), .int .i64 a, .int .i64 b] w (OpZP opJoin w S B gn gu gt things A a b) := by
  have hmf : ∀ (fn : Fn) (first cap : Array Value) (w : World), (Instr.makeFunc fn first cap).run Tryd.prog w = .ok (.func fn first cap) w := by intros; rfl
  have hal := (Below.refl w.heap.size w).alloc (Nat.le_refl _) (.cells #[.pointer (some ⟨S, 0, none⟩)] 23)
  have HB := hide (fzBoth_ok S B gn gu gt things A _ a b (h.below hal) pa pb)
  have HC := hide (fzWalk_any S B gn gu gt things A _ opJoin 35 36 a b w.heap.size (mxJoin S B gn gu gt things) (h.below hal) (Blk.new w _ _) pa pb hl)
  have HD := hide hal
  clear h hal
  go_enter Tryd.func10, Tryd.ntmps10
  go_wp2_with fail
  refine (HB.out).mono ?_
  rintro e w1 ⟨rfl, rfl⟩
  go_wp2_with fail
  refine (HC.out).mono ?_
  rintro e w7 hq
  have HQ := hide (show OpZP opJoin w S B gn gu gt things A a b e w7 from ZP.from_ HD.out hq)
  obtain ⟨A', x, rfl, -⟩ := hq
  go_wp2
  go_ret2
  exact HQ.out
end
end Go.Proofs.YtdlcldhnbhlikaaDoor
namespace Go.Proofs.YtdlcldhnbhlikaaDoor
open Go.RowKit Go.Maps

section
variable (S B gn gu gt : Nat) (things : Int) (A : Ar) (w : World)
/-- What Least answers. -/
def LeastP (w : World) (S B gn gu gt : Nat) (things : Int) (A : Ar) (h : Int) (e : Ending) (w' : World) : Prop := ZP w S B gn gu gt things A (lsN (kT (topA A h))) (topA A h) (leastG (fam A h)) e w'
set_option maxRecDepth 100000 in
set_option maxHeartbeats 4000000 in
theorem fzLeast_end (x : Int) (h : FsM w S B gn gu gt things A) (p : hasA A x = true) (hg : gotA A x = none) :
    Calls Tryd.prog 12 #[.pointer (some ⟨S, 0, none⟩), .int .i64 x] w (LeastP w S B gn gu gt things A x) := by
  have s0 := h.kS.cell 0
  have HGT := hide (arGet_none B gn gu gt A x w h.ar (h.i64 p) hg)
  have HHA := hide (fun (wx : World) (hb : Below w.heap.size w wx) => has_call_z S B gn gu gt things A wx x (h.below hb) p)
  have HST := Lib.hid (fun (wx : World) (hb : Below w.heap.size w wx) => (h.below hb).kS.cell 0)
  have HP := hide (fun (wx : World) (hb : Below w.heap.size w wx) => show LeastP w S B gn gu gt things A x (.returned (.tuple #[.int .i64 x, .nilIface])) wx from ZP.here h hb p (Int.le_refl _) _ fun s => (least_end hg s).symm)
  clear h
  go_enter Tryd.func12, Tryd.ntmps12
  go_wp2_with fail
  refine (HGT.out).mono ?_
  rintro e w1 ⟨rfl, hb⟩
  have HB := hide (hb.alloc hb.size (.cells #[.int .i64 0, .int .i64 0, .int .i64 0] 71))
  have s1 := HST.out _ HB.out
  have HH := hide (HHA.out _ HB.out)
  clear hb s0 HGT
  go_wp2_with fail
  refine (HH.out).mono ?_
  rintro e w2 ⟨rfl, rfl⟩
  go_wp2
  go_ret2
  exact HP.out _ HB.out
/-- Least of families that stand behind a thing. -/
def LeastC (t : Int) : Prop := ∀ (x : Int) (A : Ar) (w : World), t < topA A x → FsM w S B gn gu gt things A → hasA A x = true → low3 A + lsN (kT (topA A x)) ≤ 2000 →
  Calls Tryd.prog 12 #[.pointer (some ⟨S, 0, none⟩), .int .i64 x] w (LeastP w S B gn gu gt things A x)
set_option maxRecDepth 100000 in
set_option maxHeartbeats 8000000 in
theorem fzLeast_step (x : Int) (d : Nd) (h : FsM w S B gn gu gt things A) (p : hasA A x = true) (hg : gotA A x = some d) (hl : low3 A + lsN (kT d.var) ≤ 2000) (ih : LeastC S B gn gu gt things d.var) :
    Calls Tryd.prog 12 #[.pointer (some ⟨S, 0, none⟩), .int .i64 x] w (LeastP w S B gn gu gt things A x) := by
  have h6 := h.t6
  have hv := h.sp.var _ _ hg
  have htp := top_some hg
  have t0 : 0 ≤ d.var := by have := (h.sp.wf.topR x).1; omega
  have hL := h.sp.wf.low _ _ hg
  have hH := h.sp.wf.high _ _ hg
  have HGT := hide (arGet_some B gn gu gt A x d w h.ar (h.i64 p) hg)
  have HJ := Lib.hid (fun A1 A2 A3 A4 lo hi x' y c1 c2 c3 c4 t1 t2 t3 T1 T2 T3 T4 => @least_join A A1 A2 A3 A4 things x lo hi x' y c1 c2 c3 c4 t1 t2 t3 d h.sp hg T1 T2 T3 T4)
  have s0 := h.kS.cell 0
  have H := hide h
  have HLT := Lib.hid (fun k (hk : arB B gn gu gt k) => h.ar.lt hk)
  unfold LeastP
  rw [htp]
  clear h p hg
  obtain ⟨dv, dl, dh⟩ := d
  simp only at hL hH hl hv htp t0
  go_enter Tryd.func12, Tryd.ntmps12
  go_wp2_with fail
  refine (HGT.out).mono ?_
  rintro e w1 ⟨rfl, hb⟩
  have hal := (Below.refl w1.heap.size w1).alloc (Nat.le_refl _) (.cells #[.int .i64 dv, .int .i64 dl, .int .i64 dh] 71)
  have HB := hide (hb.trans (hal.mono hb.size))
  have HK := hide (Blk.new w1 71 #[.int .i64 dv, .int .i64 dl, .int .i64 dh])
  have HS1 := hide (H.out.below HB.out)
  have hnb : ∀ k, arB B gn gu gt k → k ≠ w1.heap.size := fun k hk e => by have := HLT.out k hk; have := hb.size; omega
  have HNB := Lib.hid hnb
  have hc1 := fun t3 (h3 : dv < t3) => ls_kids t0 hL.2 hH.2 h3
  have HC := Lib.hid hc1
  have hc0 := hc1 _ hL.2
  have HR1 := hide (ih dl A _ hL.2 HS1.out hL.1 (by omega))
  clear hb hal s0 HGT hnb hc1 HLT
  go_wp2_with fail
  generalize (w1.alloc (.cells #[.int .i64 dv, .int .i64 dl, .int .i64 dh] 71)) = wa at HB HK HS1 HR1 ⊢
  generalize w1.heap.size = bx at HK HNB ⊢
  refine (HR1.out).mono ?_
  rintro e w2 ⟨A1, lo, rfl, hs2, T1, hf2⟩
  have hfew1 : low3 A1 ≤ low3 A + lsN (kT (topA A dl)) := T1.few
  have hx1 := T1.ext.top hH.1
  have HR2 := hide (ih dh A1 w2 (by show dv < _; rw [hx1]; exact hH.2) hs2 (T1.ext.has hH.1) (by rw [hx1]; omega))
  have HK2 := hide (HK.out.fr hf2 (fun hk => HNB.out _ hk rfl))
  have HF2 := hide ((Fr.of_below (S := arB B gn gu gt) HB.out (Nat.le_refl _)).trans hf2)
  have HT1 := hide T1
  have HS2 := hide hs2
  have k2 := HK2.out.cell 2
  clear hs2 T1 hf2 HR1 HK HS1
  go_wp2_with fail
  refine (HR2.out).mono ?_
  rintro e w3 ⟨A2, hi, rfl, hs3, T2, hf3⟩
  have hfew2 : low3 A2 ≤ low3 A1 + lsN (kT (topA A1 dh)) := T2.few
  rw [hx1] at hfew2
  have htop2 := T2.top
  rw [hx1] at htop2
  have hlo2 : hasA A2 lo = true := T2.ext.has HT1.out.has
  have htl : dv < topA A2 lo := by rw [T2.ext.top HT1.out.has]; have := HT1.out.top; omega
  have q3 : dv < topZ A2 hi lo := topZ_gt (by omega) htl
  have hc := HC.out _ q3
  have HR3 := hide (fzFree_in S B gn gu gt things A2 w3 hi lo hs3 T2.has hlo2 (by omega))
  have HK3 := hide (HK2.out.fr hf3 (fun hk => HNB.out _ hk rfl))
  have HF3 := hide (HF2.out.trans hf3)
  have HT2 := hide T2
  clear hs3 T2 hf3 HR2 HK2 HF2 HS2 k2
  go_wp2_with fail
  refine (HR3.out).mono ?_
  rintro e w4 ⟨A3, y, rfl, hs4, T3, hf4⟩
  have hfew3 : low3 A3 ≤ low3 A2 + c3N (kT (topZ A2 hi lo)) := T3.few
  have htop3 := T3.top
  have HN := hide (fzNode_any S B gn gu gt things A3 w4 lo y dv hs4 t0 hv (T3.ext.has hlo2) (by rw [T3.ext.top hlo2]; exact htl) T3.has (by omega) (by omega))
  have HK4 := hide (HK3.out.fr hf4 (fun hk => HNB.out _ hk rfl))
  have HF4 := hide (HF3.out.trans hf4)
  have HT3 := hide T3
  have k0 := HK4.out.cell 0
  clear hs4 T3 hf4 HR3 HK3 HF3
  go_wp2_with fail
  refine (HN.out).mono ?_
  rintro e w5 ⟨A4, x', rfl, hs5, T4, hf5⟩
  have HS5 := hide hs5
  have HT4 := hide T4
  have HF5 := hide (HF4.out.trans hf5)
  clear hs5 T4 hf5 HN k0
  go_wp2
  go_ret2
  have HX := HJ.out A1 A2 A3 A4 lo hi x' y _ _ _ _ _ _ _ HT1.out HT2.out HT3.out HT4.out
  refine ⟨A4, x', rfl, HS5.out, StpZ.mono HX ?_ (Int.le_refl _) (fun _ => rfl), HF5.out⟩
  show lsN (kT (topA A dl)) + lsN (kT (topA A1 dh)) + c3N (kT (topZ A2 hi lo)) + _ ≤ lsN (kT dv)
  rw [hx1]
  exact hc
theorem fzLeast_all : ∀ (n : Nat) (x : Int) (A : Ar) (w : World), dep A x ≤ n → FsM w S B gn gu gt things A → hasA A x = true → low3 A + lsN (kT (topA A x)) ≤ 2000 →
    Calls Tryd.prog 12 #[.pointer (some ⟨S, 0, none⟩), .int .i64 x] w (LeastP w S B gn gu gt things A x) := by
  intro n
  induction n with
  | zero =>
    intro x A w hn h p hl
    cases hg : gotA A x with
    | none => exact fzLeast_end S B gn gu gt things A w x h p hg
    | some d => have := h.sp.wf.dep hg; unfold dep at hn; omega
  | succ n ih =>
    intro x A w hn h p hl
    cases hg : gotA A x with
    | none => exact fzLeast_end S B gn gu gt things A w x h p hg
    | some d =>
      have htp := top_some hg
      exact fzLeast_step S B gn gu gt things A w x d h p hg (by rw [← htp]; exact hl) fun x' A' w' ht h' p' hl' => ih x' A' w' (by
        have := (h'.sp.wf.topR x').2
        have := h.sp.wf.dep hg
        unfold dep at hn ⊢
        omega) h' p' hl'
theorem fzLeast_any (x : Int) (h : FsM w S B gn gu gt things A) (p : hasA A x = true) (hl : low3 A + lsN (kT (topA A x)) ≤ 2000) :
    Calls Tryd.prog 12 #[.pointer (some ⟨S, 0, none⟩), .int .i64 x] w (LeastP w S B gn gu gt things A x) :=
  fzLeast_all S B gn gu gt things _ x A w (Nat.le_refl _) h p hl
end
end Go.Proofs.YtdlcldhnbhlikaaDoor
