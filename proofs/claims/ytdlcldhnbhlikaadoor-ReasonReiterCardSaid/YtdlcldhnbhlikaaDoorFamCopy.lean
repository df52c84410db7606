/-
  A family of another store, copied.
-/
import Derived.Test.YtdlcldhnbhlikaaDoorFamLeast
import Derived.Test.YtdlcldhnbhlikaaDoorFamOne
namespace Go.Proofs.YtdlcldhnbhlikaaDoor
open Go.RowKit Go.Maps

/-- Where copyOf's two stores and its map stand: what the map holds are copies. -/
structure CpI (S B gn gu gt S' B' gn' gu' gt' gd : Nat) (things : Int) (T A : Ar) (f : Int → Option Int) (m : Nat) (w : World) : Prop where
  s : FsM w S B gn gu gt things A
  t : FsM w S' B' gn' gu' gt' things T
  map : MapV 3 keyL I64 w gd f m
  ok : ∀ x k, f x = some k → hasA A k = true ∧ topA T x ≤ topA A k ∧ ∀ u, fam A k u = fam T x u
  ends : f 0 ≠ none ∧ f 1 ≠ none
  ap : ∀ k, arB B gn gu gt k → ¬ (arB B' gn' gu' gt' k ∨ k = S')
/-- How many things there are from here on. -/
def lvT (t : Int) : Nat := (6 - t).toNat
def cpB (B gn gu gt gd k : Nat) : Prop := arB B gn gu gt k ∨ k = gd
theorem mapV_blk {kt : TypeId} {α : Type} {lit : α → Lit} {ok : α → Prop} {w : World} {g b m : Nat} {f : α → Option Int} {t : TypeId} {cs : Array Value} (hm : MapV kt lit ok w g f m) (hk : Blk w b t cs) : b ≠ g := by
  obtain ⟨D, ⟨es, clock, hb, _⟩, _⟩ := hm
  rintro rfl
  have h2 : w.heap[b]? = some (.cells cs t (0, 0)) := hk
  rw [h2] at hb
  cases hb
theorem arM_map {kt : TypeId} {α : Type} {lit : α → Lit} {ok : α → Prop} {w : World} {g m B gn gu gt k : Nat} {f : α → Option Int} {A : Ar} (hm : MapV kt lit ok w g f m) (h : ArM w B gn gu gt A) (hk : arB B gn gu gt k) : k ≠ g := by
  obtain ⟨ns, us, tab, _, h2, h3, h4, h5⟩ := h.is
  rcases hk with rfl | rfl | rfl | rfl
  · exact mapV_blk hm h2
  · exact mapV_blk hm h3
  · exact mapV_blk hm h4
  · exact mapV_blk hm h5
section
variable {S B gn gu gt S' B' gn' gu' gt' gd m : Nat} {things : Int} {T A A' : Ar} {f : Int → Option Int} {w w' : World}
theorem CpI.below (h : CpI S B gn gu gt S' B' gn' gu' gt' gd things T A f m w) (hb : Below w.heap.size w w') : CpI S B gn gu gt S' B' gn' gu' gt' gd things T A f m w' :=
  ⟨h.s.below hb, h.t.below hb, h.map.same (hb.block _ h.map.lt), h.ok, h.ends, h.ap⟩
/-- The store has grown. -/
theorem CpI.step (h : CpI S B gn gu gt S' B' gn' gu' gt' gd things T A f m w) (hs : FsM w' S B gn gu gt things A') (hx : ExtA A A') (hf : Fr (arB B gn gu gt) w w') : CpI S B gn gu gt S' B' gn' gu' gt' gd things T A' f m w' :=
  ⟨hs, h.t.keep fun k hk => hf.block k (hk.elim (fun h1 => h.t.ar.lt h1) fun e => by rw [e]; exact h.t.kS.lt) (fun hk2 => h.ap k hk2 hk), h.map.same (hf.block _ h.map.lt fun hk => arM_map h.map h.s.ar hk rfl),
    fun x k e => ⟨hx.has (h.ok x k e).1, by rw [hx.top (h.ok x k e).1]; exact (h.ok x k e).2.1, fun u => by rw [h.s.sp.same hs.sp hx (h.ok x k e).1]; exact (h.ok x k e).2.2 u⟩, h.ends, h.ap⟩
/-- The map has one more. -/
theorem CpI.put {x k : Int} (h : CpI S B gn gu gt S' B' gn' gu' gt' gd things T A f m w) (hm : MapV 3 keyL I64 w' gd (fun y => if y = x then some k else f y) (m + 1)) (hg : w.grownBy w' (some gd))
    (hk : hasA A k = true ∧ topA T x ≤ topA A k ∧ ∀ u, fam A k u = fam T x u) : CpI S B gn gu gt S' B' gn' gu' gt' gd things T A (fun y => if y = x then some k else f y) (m + 1) w' := by
  have hb : ∀ j, j < w.heap.size → j ≠ gd → w'.heap[j]? = w.heap[j]? := fun j hj hn => hg.block j hj fun e => hn (by injection e)
  refine ⟨h.s.keep fun j hj => hb j (hj.elim (fun h1 => h.s.ar.lt h1) fun e => by rw [e]; exact h.s.kS.lt) (hj.elim (fun h1 => arM_map h.map h.s.ar h1) fun e => by rw [e]; exact mapV_blk h.map h.s.kS),
    h.t.keep fun j hj => hb j (hj.elim (fun h1 => h.t.ar.lt h1) fun e => by rw [e]; exact h.t.kS.lt) (hj.elim (fun h1 => arM_map h.map h.t.ar h1) fun e => by rw [e]; exact mapV_blk h.map h.t.kS), hm, fun y z e => ?_, ?_, h.ap⟩
  · split at e
    · rename_i e2
      cases e
      rw [e2]
      exact hk
    · exact h.ok y z e
  · refine ⟨?_, ?_⟩
    · split
      · simp
      · exact h.ends.1
    · split
      · simp
      · exact h.ends.2
end
/-- What copyOf answers. -/
def CpQ (S B gn gu gt S' B' gn' gu' gt' gd : Nat) (things : Int) (T A : Ar) (m : Nat) (x : Int) (w : World) (e : Ending) (w' : World) : Prop :=
  ∃ A' k f' m', e = .returned (.tuple #[.int .i64 k, .nilIface]) ∧ CpI S B gn gu gt S' B' gn' gu' gt' gd things T A' f' m' w' ∧ ExtA A A' ∧ low3 A' ≤ low3 A + c2N (kT (topA T x)) ∧ (hasA A' k = true ∧ topA T x ≤ topA A' k ∧ ∀ u, fam A' k u = fam T x u) ∧
    m' + 1 ≤ m + 2 ^ lvT (topA T x) ∧ Fr (cpB B gn gu gt gd) w w'
section
variable (S B gn gu gt S' B' gn' gu' gt' gd : Nat) (things : Int) (T A : Ar) (f : Int → Option Int) (m : Nat) (w : World)
set_option maxHeartbeats 2000000 in
theorem copy_known (x k : Int) (h : CpI S B gn gu gt S' B' gn' gu' gt' gd things T A f m w) (hi : I64 x) (hf : f x = some k) :
    Calls Tryd.prog 47 #[.pointer (some ⟨S, 0, none⟩), .pointer (some ⟨S', 0, none⟩), .int .i64 x, .map (some gd)] w (CpQ S B gn gu gt S' B' gn' gu' gt' gd things T A m x w) := by
  have hlk := MapV.lookRun keyS_int Tryd.underlying85 h.map x hi
  rw [hf] at hlk
  have HP := hide (show CpQ S B gn gu gt S' B' gn' gu' gt' gd things T A m x w (.returned (.tuple #[.int .i64 k, .nilIface])) w from ⟨A, k, f, m, rfl, h, .refl A, Nat.le_add_right _ _, h.ok x k hf, by have := Nat.one_le_two_pow (n := lvT (topA T x)); omega, .refl _ _⟩)
  clear h hf
  go_enter Tryd.func47, Tryd.ntmps47
  go_wp2
  go_ret2
  exact HP.out
/-- What it asks for, of handles below a thing. -/
def CpC (t : Int) : Prop := ∀ (x : Int) (A : Ar) (f : Int → Option Int) (m : Nat) (w : World), t < topA T x → hasA T x = true → CpI S B gn gu gt S' B' gn' gu' gt' gd things T A f m w → low3 A + c2N (kT (topA T x)) ≤ 2000 → m + 2 ^ lvT (topA T x) ≤ 1000000 →
  Calls Tryd.prog 47 #[.pointer (some ⟨S, 0, none⟩), .pointer (some ⟨S', 0, none⟩), .int .i64 x, .map (some gd)] w (CpQ S B gn gu gt S' B' gn' gu' gt' gd things T A m x w)
set_option maxRecDepth 100000 in
set_option maxHeartbeats 8000000 in
theorem copy_miss (x : Int) (d : Nd) (h : CpI S B gn gu gt S' B' gn' gu' gt' gd things T A f m w) (hi : I64 x) (hf : f x = none) (hg : gotA T x = some d) (hl : low3 A + c2N (kT (topA T x)) ≤ 2000) (hm : m + 2 ^ lvT (topA T x) ≤ 1000000)
    (ih : CpC S B gn gu gt S' B' gn' gu' gt' gd things T d.var) :
    Calls Tryd.prog 47 #[.pointer (some ⟨S, 0, none⟩), .pointer (some ⟨S', 0, none⟩), .int .i64 x, .map (some gd)] w (CpQ S B gn gu gt S' B' gn' gu' gt' gd things T A m x w) := by
  have hlk := MapV.lookRun keyS_int Tryd.underlying85 h.map x hi
  rw [hf] at hlk
  have hwf := h.t.sp.wf
  have hv := h.t.sp.var _ _ hg
  have htp := top_some hg
  have t0 : 0 ≤ d.var := by have := (hwf.topR x).1; omega
  have hdx := hwf.dep hg
  have HFS := Lib.hid (fun u => fam_some (s := u) hwf hg)
  have HGT := hide (arGet_some B' gn' gu' gt' T x d w h.t.ar hi hg)
  have s0 := h.t.kS.cell 0
  have H := hide h
  obtain ⟨dv, dl, dh⟩ := d
  have hL : dv < topA T dl ∧ hasA T dl = true := hwf.kid hg false
  have hH : dv < topA T dh ∧ hasA T dh = true := hwf.kid hg true
  have ht6 := h.t.t6.2
  have dll : lvT (topA T dl) + 1 ≤ lvT (topA T x) := by unfold lvT; have := hL.1; simp only at htp hv t0; omega
  have dhl : lvT (topA T dh) + 1 ≤ lvT (topA T x) := by unfold lvT; have := hH.1; simp only at htp hv t0; omega
  have hpw : 2 ^ lvT (topA T dl) + 2 ^ lvT (topA T dh) ≤ 2 ^ lvT (topA T x) := by
    generalize lvT (topA T dl) = a at dll ⊢
    generalize lvT (topA T dh) = b at dhl ⊢
    generalize lvT (topA T x) = c at dll dhl ⊢
    have h1 : 2 ^ a ≤ 2 ^ (c - 1) := Nat.pow_le_pow_right (by omega) (by omega)
    have h2 : 2 ^ b ≤ 2 ^ (c - 1) := Nat.pow_le_pow_right (by omega) (by omega)
    have h3 : 2 ^ c = 2 ^ (c - 1) * 2 := by rw [← Nat.pow_succ]; congr 1; omega
    omega
  have hone := Nat.one_le_two_pow (n := lvT (topA T dh))
  simp only at hv htp t0 HFS
  have hc := c2_two t0 hL.1 hH.1
  rw [htp] at hl
  have hIH := Lib.hid ih
  clear h hf hg hwf ih
  go_enter Tryd.func47, Tryd.ntmps47
  go_wp2_with fail
  refine (HGT.out).mono ?_
  rintro e w1 ⟨rfl, hb⟩
  have hal := (Below.refl w1.heap.size w1).alloc (Nat.le_refl _) (.cells #[.int .i64 dv, .int .i64 dl, .int .i64 dh] 71)
  have HB := hide (hb.trans (hal.mono hb.size))
  have HK := hide (Blk.new w1 71 #[.int .i64 dv, .int .i64 dl, .int .i64 dh])
  have H1 := hide (H.out.below HB.out)
  have hnb : ¬ cpB B gn gu gt gd w1.heap.size := by
    rintro (hk | hk)
    · have := H.out.s.ar.lt hk; have := hb.size; omega
    · have := H.out.map.lt; have := hb.size; omega
  have HNB := Lib.hid hnb
  have HR1 := hide (hIH.out dl A f m _ hL.1 hL.2 H1.out (by omega) (by omega))
  clear hb hal s0 HGT hnb hlk
  go_wp2_with fail
  generalize (w1.alloc (.cells #[.int .i64 dv, .int .i64 dl, .int .i64 dh] 71)) = wa at HB HK H1 HR1 ⊢
  generalize w1.heap.size = bx at HK HNB ⊢
  refine (HR1.out).mono ?_
  rintro e w2 ⟨A1, k1, f1, m1, rfl, hI1, hx1, hw1, hk1, hm1, hf1⟩
  have HR2 := hide (hIH.out dh A1 f1 m1 w2 hH.1 hH.2 hI1 (by omega) (by omega))
  have HK2 := hide (HK.out.fr hf1 HNB.out)
  have HF2 := hide ((Fr.of_below (S := cpB B gn gu gt gd) HB.out (Nat.le_refl _)).trans hf1)
  have HI1 := hide hI1
  have HX1 := hide hx1
  have c2 := HK2.out.cell 2
  clear hI1 hx1 hf1 HR1 HK H1
  go_wp2_with fail
  refine (HR2.out).mono ?_
  rintro e w3 ⟨A2, k2, f2, m2, rfl, hI2, hx2, hw2, hk2, hm2, hf2⟩
  have hp1 : hasA A2 k1 = true := hx2.has hk1.1
  have ht1 : topA A2 k1 = topA A1 k1 := hx2.top hk1.1
  have HFE := Lib.hid (fun u => (HI1.out.s.sp.same hI2.s.sp hx2 hk1.1 u).trans (hk1.2.2 u))
  have HND := hide (fzNode_any S B gn gu gt things A2 w3 k1 k2 dv hI2.s t0 hv hp1 (by rw [ht1]; have := hk1.2.1; omega) hk2.1 (by have := hk2.2.1; omega) (by omega))
  have HK3 := hide (HK2.out.fr hf2 HNB.out)
  have HF3 := hide (HF2.out.trans hf2)
  have HI2 := hide hI2
  have HX2 := hide (HX1.out.trans hx2)
  have c0 := HK3.out.cell 0
  clear hI2 hx2 hf2 HR2 HK2 HF2 c2
  go_wp2_with fail
  refine (HND.out).mono ?_
  rintro e w4 ⟨A3, k3, rfl, hs4, T4, hf4⟩
  have hI4 := HI2.out.step hs4 T4.ext hf4
  have hfew := T4.few
  have hkk : hasA A3 k3 = true ∧ topA T x ≤ topA A3 k3 ∧ ∀ u, fam A3 k3 u = fam T x u := ⟨T4.has, by rw [htp]; exact T4.top, fun u => by
    rw [T4.fam, HFS.out]
    unfold nodeZ
    simp only
    split
    · exact hk2.2.2 _
    · exact HFE.out u⟩
  have hik : I64 k3 := hs4.i64 T4.has
  have HF4 := hide (HF3.out.trans (hf4.mono fun k _ hk => Or.inl hk))
  have HI4 := hide hI4
  have HX4 := hide (HX2.out.trans T4.ext)
  clear hI4 hs4 T4 hf4 HND HF3 c0 HI1 HX1 HX2
  go_wp2_with (first
    | (refine storeV keyS_int rfl _ _ _ 85 rfl Tryd.underlying85 rfl HI4.out.map x k3 rfl rfl hi hik (by omega) ?_; intro w5 hm5 hg5; have HM5 := hide hm5; have HG5 := hide hg5; clear hm5 hg5)
    | fail)
  go_ret2
  refine ⟨A3, k3, _, _, rfl, HI4.out.put HM5.out HG5.out hkk, HX4.out, ?_, hkk, by omega, HF4.out.grown HG5.out (fun k e => by cases e; exact Or.inr rfl)⟩
  rw [htp]
  omega
theorem copy_all : ∀ (n : Nat) (x : Int) (A : Ar) (f : Int → Option Int) (m : Nat) (w : World), dep T x ≤ n → hasA T x = true → CpI S B gn gu gt S' B' gn' gu' gt' gd things T A f m w → low3 A + c2N (kT (topA T x)) ≤ 2000 → m + 2 ^ lvT (topA T x) ≤ 1000000 →
    Calls Tryd.prog 47 #[.pointer (some ⟨S, 0, none⟩), .pointer (some ⟨S', 0, none⟩), .int .i64 x, .map (some gd)] w (CpQ S B gn gu gt S' B' gn' gu' gt' gd things T A m x w) := by
  have got : ∀ (x : Int) (f : Int → Option Int) (A : Ar) (m : Nat) (w : World), hasA T x = true → CpI S B gn gu gt S' B' gn' gu' gt' gd things T A f m w → f x = none → ∃ d, gotA T x = some d := by
    intro x f A m w hp h hf
    cases e : gotA T x with
    | some d => exact ⟨d, rfl⟩
    | none =>
      rcases end_two hp e with rfl | rfl
      · exact absurd hf h.ends.1
      · exact absurd hf h.ends.2
  intro n
  induction n with
  | zero =>
    intro x A f m w hn hp h hl hm
    cases hf : f x with
    | some k => exact copy_known S B gn gu gt S' B' gn' gu' gt' gd things T A f m w x k h (h.t.i64 hp) hf
    | none =>
      obtain ⟨d, hg⟩ := got x f A m w hp h hf
      have := h.t.sp.wf.dep hg
      unfold dep at hn
      omega
  | succ n ihn =>
    intro x A f m w hn hp h hl hm
    cases hf : f x with
    | some k => exact copy_known S B gn gu gt S' B' gn' gu' gt' gd things T A f m w x k h (h.t.i64 hp) hf
    | none =>
      obtain ⟨d, hg⟩ := got x f A m w hp h hf
      have hd := h.t.sp.wf.dep hg
      have ht := top_some hg
      exact copy_miss S B gn gu gt S' B' gn' gu' gt' gd things T A f m w x d h (h.t.i64 hp) hf hg hl hm fun x' A' f' m' w' h1 h2 h3 h4 h5 => ihn x' A' f' m' w' (by unfold dep at hn ⊢; omega) h2 h3 h4 h5
end
end Go.Proofs.YtdlcldhnbhlikaaDoor
