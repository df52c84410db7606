/-
  A store's Least, One, Free, walked.
-/
import Derived.Test.YtfbhmkpihmcegaaFamDo
namespace Go.Proofs.Ytfbhmkpihmcegaa
open Go.RowKit Go.Maps

section
variable (S B gn gu gt : Nat) (things : Int) (A : Ar) (w : World)
/-- What Least answers. -/
def LeastP (w : World) (S B gn gu gt : Nat) (things : Int) (A : Ar) (h : Int) (e : Ending) (w' : World) : Prop := ZP w S B gn gu gt things A (lsN (kT (topA A h))) (topA A h) (leastG (fam A h)) e w'
set_option maxRecDepth 100000 in
set_option maxHeartbeats 4000000 in
theorem fzLeast_end (x : Int) (h : FsM w S B gn gu gt things A) (p : hasA A x = true) (hg : gotA A x = none) :
    Calls Try.prog 28 #[.pointer (some ⟨S, 0, none⟩), .int .i64 x] w (LeastP w S B gn gu gt things A x) := by
  have s0 := h.kS.cell 0
  have HGT := hide (arGet_none B gn gu gt A x w h.ar (h.i64 p) hg)
  have HHA := hide (fun (wx : World) (hb : Below w.heap.size w wx) => has_call_z S B gn gu gt things A wx x (h.below hb) p)
  have HST := Lib.hid (fun (wx : World) (hb : Below w.heap.size w wx) => (h.below hb).kS.cell 0)
  have HP := hide (fun (wx : World) (hb : Below w.heap.size w wx) => show LeastP w S B gn gu gt things A x (.returned (.tuple #[.int .i64 x, .nilIface])) wx from ZP.here h hb p (Int.le_refl _) _ fun s => (least_end hg s).symm)
  clear h
  go_enter Try.func28, Try.ntmps28
  go_wp2_with fail
  refine (HGT.out).mono ?_
  rintro e w1 ⟨rfl, hb⟩
  have HB := hide (hb.alloc hb.size (.cells #[.int .i64 0, .int .i64 0, .int .i64 0] 68))
  have s1 := HST.out _ HB.out
  have HH := hide (HHA.out _ HB.out)
  clear hb s0 HGT
  go_wp2_with fail
  refine (HH.out).mono ?_
  rintro e w2 ⟨rfl, rfl⟩
  go_wp2
  go_ret2
  exact HP.out _ HB.out
/-- Least of families that stand behind a thing. -/
def LeastC (t : Int) : Prop := ∀ (x : Int) (A : Ar) (w : World), t < topA A x → FsM w S B gn gu gt things A → hasA A x = true → low3 A + lsN (kT (topA A x)) ≤ 2000 →
  Calls Try.prog 28 #[.pointer (some ⟨S, 0, none⟩), .int .i64 x] w (LeastP w S B gn gu gt things A x)
set_option maxRecDepth 100000 in
set_option maxHeartbeats 8000000 in
theorem fzLeast_step (x : Int) (d : Nd) (h : FsM w S B gn gu gt things A) (p : hasA A x = true) (hg : gotA A x = some d) (hl : low3 A + lsN (kT d.var) ≤ 2000) (ih : LeastC S B gn gu gt things d.var) :
    Calls Try.prog 28 #[.pointer (some ⟨S, 0, none⟩), .int .i64 x] w (LeastP w S B gn gu gt things A x) := by
  have h6 := h.t6
  have hv := h.sp.var _ _ hg
  have htp := top_some hg
  have t0 : 0 ≤ d.var := by have := (h.sp.wf.topR x).1; omega
  have hL := h.sp.wf.low _ _ hg
  have hH := h.sp.wf.high _ _ hg
  have HGT := hide (arGet_some B gn gu gt A x d w h.ar (h.i64 p) hg)
  have HJ := Lib.hid (fun A1 A2 A3 A4 lo hi x' y c1 c2 c3 c4 t1 t2 t3 T1 T2 T3 T4 => @least_join A A1 A2 A3 A4 things x lo hi x' y c1 c2 c3 c4 t1 t2 t3 d h.sp hg T1 T2 T3 T4)
  have s0 := h.kS.cell 0
  have H := hide h
  have HLT := Lib.hid (fun k (hk : arB B gn gu gt k) => h.ar.lt hk)
  unfold LeastP
  rw [htp]
  clear h p hg
  obtain ⟨dv, dl, dh⟩ := d
  simp only at hL hH hl hv htp t0
  go_enter Try.func28, Try.ntmps28
  go_wp2_with fail
  refine (HGT.out).mono ?_
  rintro e w1 ⟨rfl, hb⟩
  have hal := (Below.refl w1.heap.size w1).alloc (Nat.le_refl _) (.cells #[.int .i64 dv, .int .i64 dl, .int .i64 dh] 68)
  have HB := hide (hb.trans (hal.mono hb.size))
  have HK := hide (Blk.new w1 68 #[.int .i64 dv, .int .i64 dl, .int .i64 dh])
  have HS1 := hide (H.out.below HB.out)
  have hnb : ∀ k, arB B gn gu gt k → k ≠ w1.heap.size := fun k hk e => by have := HLT.out k hk; have := hb.size; omega
  have HNB := Lib.hid hnb
  have hc1 := fun t3 (h3 : dv < t3) => ls_kids t0 hL.2 hH.2 h3
  have HC := Lib.hid hc1
  have hc0 := hc1 _ hL.2
  have HR1 := hide (ih dl A _ hL.2 HS1.out hL.1 (by omega))
  clear hb hal s0 HGT hnb hc1 HLT
  go_wp2_with fail
  generalize (w1.alloc (.cells #[.int .i64 dv, .int .i64 dl, .int .i64 dh] 68)) = wa at HB HK HS1 HR1 ⊢
  generalize w1.heap.size = bx at HK HNB ⊢
  refine (HR1.out).mono ?_
  rintro e w2 ⟨A1, lo, rfl, hs2, T1, hf2⟩
  have hfew1 : low3 A1 ≤ low3 A + lsN (kT (topA A dl)) := T1.few
  have hx1 := T1.ext.top hH.1
  have HR2 := hide (ih dh A1 w2 (by show dv < _; rw [hx1]; exact hH.2) hs2 (T1.ext.has hH.1) (by rw [hx1]; omega))
  have HK2 := hide (HK.out.fr hf2 (fun hk => HNB.out _ hk rfl))
  have HF2 := hide ((Fr.of_below (S := arB B gn gu gt) HB.out (Nat.le_refl _)).trans hf2)
  have HT1 := hide T1
  have HS2 := hide hs2
  have k2 := HK2.out.cell 2
  clear hs2 T1 hf2 HR1 HK HS1
  go_wp2_with fail
  refine (HR2.out).mono ?_
  rintro e w3 ⟨A2, hi, rfl, hs3, T2, hf3⟩
  have hfew2 : low3 A2 ≤ low3 A1 + lsN (kT (topA A1 dh)) := T2.few
  rw [hx1] at hfew2
  have htop2 := T2.top
  rw [hx1] at htop2
  have hlo2 : hasA A2 lo = true := T2.ext.has HT1.out.has
  have htl : dv < topA A2 lo := by rw [T2.ext.top HT1.out.has]; have := HT1.out.top; omega
  have q3 : dv < topZ A2 hi lo := topZ_gt (by omega) htl
  have hc := HC.out _ q3
  have HR3 := hide (fzFree_in S B gn gu gt things A2 w3 hi lo hs3 T2.has hlo2 (by omega))
  have HK3 := hide (HK2.out.fr hf3 (fun hk => HNB.out _ hk rfl))
  have HF3 := hide (HF2.out.trans hf3)
  have HT2 := hide T2
  clear hs3 T2 hf3 HR2 HK2 HF2 HS2 k2
  go_wp2_with fail
  refine (HR3.out).mono ?_
  rintro e w4 ⟨A3, y, rfl, hs4, T3, hf4⟩
  have hfew3 : low3 A3 ≤ low3 A2 + c3N (kT (topZ A2 hi lo)) := T3.few
  have htop3 := T3.top
  have HN := hide (fzNode_any S B gn gu gt things A3 w4 lo y dv hs4 t0 hv (T3.ext.has hlo2) (by rw [T3.ext.top hlo2]; exact htl) T3.has (by omega) (by omega))
  have HK4 := hide (HK3.out.fr hf4 (fun hk => HNB.out _ hk rfl))
  have HF4 := hide (HF3.out.trans hf4)
  have HT3 := hide T3
  have k0 := HK4.out.cell 0
  clear hs4 T3 hf4 HR3 HK3 HF3
  go_wp2_with fail
  refine (HN.out).mono ?_
  rintro e w5 ⟨A4, x', rfl, hs5, T4, hf5⟩
  have HS5 := hide hs5
  have HT4 := hide T4
  have HF5 := hide (HF4.out.trans hf5)
  clear hs5 T4 hf5 HN k0
  go_wp2
  go_ret2
  have HX := HJ.out A1 A2 A3 A4 lo hi x' y _ _ _ _ _ _ _ HT1.out HT2.out HT3.out HT4.out
  refine ⟨A4, x', rfl, HS5.out, StpZ.mono HX ?_ (Int.le_refl _) (fun _ => rfl), HF5.out⟩
  show lsN (kT (topA A dl)) + lsN (kT (topA A1 dh)) + c3N (kT (topZ A2 hi lo)) + _ ≤ lsN (kT dv)
  rw [hx1]
  exact hc
theorem fzLeast_all : ∀ (n : Nat) (x : Int) (A : Ar) (w : World), dep A x ≤ n → FsM w S B gn gu gt things A → hasA A x = true → low3 A + lsN (kT (topA A x)) ≤ 2000 →
    Calls Try.prog 28 #[.pointer (some ⟨S, 0, none⟩), .int .i64 x] w (LeastP w S B gn gu gt things A x) := by
  intro n
  induction n with
  | zero =>
    intro x A w hn h p hl
    cases hg : gotA A x with
    | none => exact fzLeast_end S B gn gu gt things A w x h p hg
    | some d => have := h.sp.wf.dep hg; unfold dep at hn; omega
  | succ n ih =>
    intro x A w hn h p hl
    cases hg : gotA A x with
    | none => exact fzLeast_end S B gn gu gt things A w x h p hg
    | some d =>
      have htp := top_some hg
      exact fzLeast_step S B gn gu gt things A w x d h p hg (by rw [← htp]; exact hl) fun x' A' w' ht h' p' hl' => ih x' A' w' (by
        have := (h'.sp.wf.topR x').2
        have := h.sp.wf.dep hg
        unfold dep at hn ⊢
        omega) h' p' hl'
theorem fzLeast_any (x : Int) (h : FsM w S B gn gu gt things A) (p : hasA A x = true) (hl : low3 A + lsN (kT (topA A x)) ≤ 2000) :
    Calls Try.prog 28 #[.pointer (some ⟨S, 0, none⟩), .int .i64 x] w (LeastP w S B gn gu gt things A x) :=
  fzLeast_all S B gn gu gt things _ x A w (Nat.le_refl _) h p hl
end
end Go.Proofs.Ytfbhmkpihmcegaa
