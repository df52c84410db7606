/-
  A family's Count: its closure (begun). A family's Count. A family's List.
-/
import Derived.Test.YtdlcldhnbhlikaaDoorFamList
import Derived.Test.YtdlcldhnbhlikaaDoorMapH
import Derived.Test.YtdlcldhnbhlikaaDoorNatAdd
import Derived.Deep.RegionHeld3
import Derived.Deep.Cut
namespace Go.Proofs.YtdlcldhnbhlikaaDoor
open Go.RowKit Go.Maps

/-- The store in block S, over an arena whose nodes are of the first six things. -/
structure FsV (w : World) (S B gn gu gt : Nat) (things : Int) (A : Ar) : Prop where
  kS : Blk w S 58 #[.pointer (some ⟨B, 0, none⟩), .int .i64 things]
  ar : ArM w B gn gu gt A
  wf : WfA A
  va : VarA A 6
section
variable {w w' : World} {S B gn gu gt : Nat} {things : Int} {A : Ar}
theorem FsM.toV (h : FsM w S B gn gu gt things A) : FsV w S B gn gu gt things A := ⟨h.kS, h.ar, h.sp.wf, fun x d e => Int.lt_of_lt_of_le (h.sp.var x d e) h.t6.2⟩
theorem FsV.below (h : FsV w S B gn gu gt things A) (hb : Below w.heap.size w w') : FsV w' S B gn gu gt things A :=
  ⟨h.kS.below hb h.kS.lt, h.ar.below hb (fun _ hk => h.ar.lt hk), h.wf, h.va⟩
theorem FsV.i64 (h : FsV w S B gn gu gt things A) {y : Int} (hy : hasA A y = true) : I64 y := by
  have hr := h.ar.room
  cases e : gotA A y with
  | none =>
    rcases end_two hy e with rfl | rfl <;> (unfold I64; omega)
  | some d =>
    obtain ⟨k, rfl, hk, _⟩ := gotA_is e
    unfold I64
    omega
theorem has_call_v (x : Int) (h : FsV w S B gn gu gt things A) (hx : I64 x) (b : Bool) (hb : hasA A x = b) : Calls Tryd.prog 39 #[.pointer (some ⟨B, 0, none⟩), .int .i64 x] w (fun e w' => e = .returned (.bool b) ∧ w = w') :=
  (arHas_any B gn gu gt A x w h.ar hx).mono (fun e w' ⟨e1, e2⟩ => ⟨by rw [e1, hb], e2⟩)
end
/-- Where Count's boxes lie. -/
structure CnB where
  s : Nat
  d : Nat
  f : Nat
  gd : Nat
def cntV (K : CnB) : Value := .func (.func 40) #[] #[.pointer (some ⟨K.s, 0, none⟩), .pointer (some ⟨K.d, 0, none⟩), .pointer (some ⟨K.f, 0, none⟩)]
structure CnI (K : CnB) (S B gn gu gt : Nat) (things : Int) (A : Ar) (f : Int → Option Value) (m : Nat) (w : World) : Prop where
  kS : Blk w S 58 #[.pointer (some ⟨B, 0, none⟩), .int .i64 things]
  ar : ArM w B gn gu gt A
  ks : Blk w K.s 23 #[.pointer (some ⟨S, 0, none⟩)]
  kd : Blk w K.d 75 #[.map (some K.gd)]
  kf : Blk w K.f 76 #[cntV K]
  map : MapH w K.gd f m
  vals : ∀ x v, f x = some v → NatV w v (numS (fam A x))
section
variable {K : CnB} {S B gn gu gt m : Nat} {things : Int} {A : Ar} {f : Int → Option Value} {w w' : World}
theorem CnI.below (h : CnI K S B gn gu gt things A f m w) (hb : Below w.heap.size w w') : CnI K S B gn gu gt things A f m w' :=
  ⟨h.kS.below hb h.kS.lt, h.ar.below hb (fun _ hk => h.ar.lt hk), h.ks.below hb h.ks.lt, h.kd.below hb h.kd.lt, h.kf.below hb h.kf.lt, h.map.below hb, fun x v e => (h.vals x v e).below hb⟩
end
/-- What a walk of the closure answers. -/
def CnQ (K : CnB) (S B gn gu gt : Nat) (things : Int) (A : Ar) (m : Nat) (x : Int) (w : World) (e : Ending) (w' : World) : Prop :=
  ∃ v f' m', e = .returned v ∧ NatV w' v (numS (fam A x)) ∧ CnI K S B gn gu gt things A f' m' w' ∧ m' + 1 ≤ m + 2 ^ dep A x ∧ Fr (fun k => k = K.gd) w w'
theorem cnNatFr {w w' : World} {gd N : Nat} {v : Value} (h : NatV w v N) (hf : Fr (fun k => k = gd) w w') (hd : ∃ es c, w.heap[gd]? = some (.map es c)) : NatV w' v N := by
  obtain ⟨A, n, c, xs, e, hc, hl, ht, hv⟩ := h.is
  refine ⟨A, n, c, xs, e, hc, ⟨hl.1, hl.2.1, hl.2.2.1, hl.2.2.2.1, fun h0 => ?_⟩, ht, hv⟩
  obtain ⟨ad, e3, hb, hcl⟩ := hl.2.2.2.2 h0
  refine ⟨ad, e3, Nat.lt_of_lt_of_le hb hf.size, fun j x hx => ?_⟩
  have h1 := hcl j x hx
  refine (hf.cell (p := ad.add j) (by rw [block_of_add]; exact hb) (fun e4 => ?_)).trans h1
  obtain ⟨es, cc, hm⟩ := hd
  rw [show (ad.add j) = ⟨gd, (ad.add j).off, (ad.add j).spot⟩ by rw [← e4]] at h1
  simp [World.cell?, hm] at h1
theorem cnAddV (v1 v2 : Value) (N M : Nat) (w : World) (h1 : NatV w v1 N) (h2 : NatV w v2 M) (hN : N < 4294967296 ^ 1000) (hM : M < 4294967296 ^ 1000) : Calls Tryd.prog 42 #[v1, v2] w (OfPost w (N + M)) := by
  obtain ⟨A, n, c, xs, rfl, _, hl, _, hv, hn⟩ := h1.len hN
  obtain ⟨A2, n2, c2, ys, rfl, _, hl2, _, hv2, hn2⟩ := h2.len hM
  rw [← hv, ← hv2]
  exact natAdd_any A A2 n c n2 c2 xs ys w hl hl2 hn hn2
theorem cnPow {a b n : Nat} (ha : a + 1 ≤ n) (hb : b + 1 ≤ n) : 2 ^ a + 2 ^ b ≤ 2 ^ n := by
  have h1 : 2 ^ a ≤ 2 ^ (n - 1) := Nat.pow_le_pow_right (by omega) (by omega)
  have h2 : 2 ^ b ≤ 2 ^ (n - 1) := Nat.pow_le_pow_right (by omega) (by omega)
  have h3 : 2 ^ n = 2 ^ (n - 1) * 2 := by rw [← Nat.pow_succ]; congr 1; omega
  omega
theorem numS_le (F : Nat → Bool) : numS F ≤ 64 := sets_len F
theorem cnBoundK {p : Nat} (k : Nat) (hk : 1 ≤ k) (h : p < 4294967296) : p < 4294967296 ^ k := by
  have h1 : 4294967296 ^ 1 ≤ 4294967296 ^ k := Nat.pow_le_pow_right (by omega) hk
  rw [Nat.pow_one] at h1
  exact Nat.lt_of_lt_of_le h h1
theorem cnSmall {N : Nat} (h : N ≤ 64) : N < 4294967296 ^ 1000 := cnBoundK 1000 (by omega) (by omega)
set_option maxHeartbeats 2000000 in
theorem count_end (K : CnB) (S B gn gu gt m : Nat) (things : Int) (A : Ar) (f : Int → Option Value) (w : World) (x : Int) (h : CnI K S B gn gu gt things A f m w) (hx : x = 0 ∨ x = 1) :
    Calls Tryd.prog 40 #[.int .i64 x, .pointer (some ⟨K.s, 0, none⟩), .pointer (some ⟨K.d, 0, none⟩), .pointer (some ⟨K.f, 0, none⟩)] w (CnQ K S B gn gu gt things A m x w) := by
  have hx64 : I64 x := by unfold I64; omega
  have hg : gotA A x = none := gotA_low (by omega)
  have HNS := Lib.hid (numS_none hg hx)
  have HI := hide h
  have hal := (Below.refl w.heap.size w).alloc (Nat.le_refl _) (.cells #[.slice none 0 0] 35)
  have hk := Blk.new w 35 #[.slice none 0 0]
  have hsp := h.below hal
  have s0 := hsp.kS.cell 0
  have s1 := hsp.ks.cell 0
  have HG := hide (arGet_none B gn gu gt A x _ hsp.ar hx64 hg)
  have HB := hide hal
  have HK := hide hk
  have HO := hide (fun w' => of_any x w' (by omega))
  rw [show (max 0 x).toNat = x.toNat by omega] at HO
  clear h hal hk hsp hg
  go_enter Tryd.func40, Tryd.ntmps40
  go_wp2_with fail
  generalize hg6 : w.heap.size = g6 at HK ⊢
  have h6 : w.heap.size ≤ g6 := by omega
  generalize (w.alloc (.cells #[.slice none 0 0] 35)) = w1 at HG HB HK s0 s1 ⊢
  refine (HG.out).mono ?_
  rintro e w2 ⟨rfl, hb2⟩
  have hal2 := hb2.alloc hb2.size (.cells #[.int .i64 0, .int .i64 0, .int .i64 0] 71)
  have HB2 := hide (HB.out.trans (hal2.mono HB.out.size))
  have HK2 := hide (HK.out.below hal2 HK.out.lt)
  clear hb2 hal2 s0 s1
  go_wp2_with fail
  refine (HO.out _).mono ?_
  rintro e w3 ⟨v, rfl, hv, hb3⟩
  obtain ⟨Av, nv, cv, rfl⟩ := hv.form
  have hk3 := HK2.out.below hb3 HK2.out.lt
  have c6 := hk3.cell 0
  have f6 := hk3.frozen 0
  have HK9 := hide (hk3.set_ 0 (.slice Av nv cv))
  have d9 := HK9.out.cell 0
  have HV9 := hide (natV_set (u := .slice Av nv cv) hv c6 (fun i e => by cases e))
  have HB9 := hide ((HB2.out.trans (hb3.mono HB2.out.size)).setCell (p := ⟨g6, 0, none⟩) h6 (.slice Av nv cv))
  clear hv hb3 hk3
  go_wp2
  exact bodyPost_ret (v := .agg #[.slice Av nv cv]) (by simp [results, Tryd.results40, go_sem, d9]) rfl ⟨_, f, m, rfl, by rw [HNS.out]; exact HV9.out, HI.out.below HB9.out, by have := Nat.one_le_two_pow (n := dep A x); omega, .of_below HB9.out (Nat.le_refl _)⟩
set_option maxRecDepth 100000 in
set_option maxHeartbeats 4000000 in
theorem count_known (K : CnB) (S B gn gu gt m : Nat) (things : Int) (A : Ar) (f : Int → Option Value) (w : World) (x : Int) (d : Nd) (v0 : Value) (hI : CnI K S B gn gu gt things A f m w) (hi : I64 x) (hg : gotA A x = some d) (hfx : f x = some v0) :
    Calls Tryd.prog 40 #[.int .i64 x, .pointer (some ⟨K.s, 0, none⟩), .pointer (some ⟨K.d, 0, none⟩), .pointer (some ⟨K.f, 0, none⟩)] w (CnQ K S B gn gu gt things A m x w) := by
  obtain ⟨dv, dl, dh⟩ := d
  have hal := (Below.refl w.heap.size w).alloc (Nat.le_refl _) (.cells #[.slice none 0 0] 35)
  have HI := hide hI
  have HI1 := hide (hI.below hal)
  have HK6 := hide (Blk.new w 35 #[.slice none 0 0])
  have HB1 := hide hal
  have s0 := HI1.out.kS.cell 0
  have s1 := HI1.out.ks.cell 0
  have HGT := hide (arGet_some B gn gu gt A x ⟨dv, dl, dh⟩ _ HI1.out.ar hi hg)
  clear hal hI hg
  go_enter Tryd.func40, Tryd.ntmps40
  go_wp2_with fail
  obtain ⟨g6, HG6⟩ : ∃ g6, Hid (w.heap.size = g6) := ⟨_, Lib.hid rfl⟩
  rw [HG6.out] at HK6 ⊢
  generalize (w.alloc (.cells #[.slice none 0 0] 35)) = w1 at HI1 HK6 HB1 s0 s1 HGT ⊢
  refine (HGT.out).mono ?_
  rintro e w2 ⟨rfl, hb2⟩
  have hb3 := hb2.alloc hb2.size (.cells #[.int .i64 dv, .int .i64 dl, .int .i64 dh] 71)
  have HI3 := hide (HI1.out.below hb3)
  have HB3 := hide (HB1.out.trans (hb3.mono HB1.out.size))
  have HK6b := hide (HK6.out.below hb3 HK6.out.lt)
  have hlk := HI3.out.map.lookRun x hi
  have d0 := HI3.out.kd.cell 0
  clear hb2 hb3 HI1 HB1 HK6 HGT s0 s1
  rw [hfx] at hlk
  have hv0 := HI3.out.vals x v0 hfx
  obtain ⟨Av, nv, cv, rfl⟩ := hv0.form
  have hal := (Below.refl _ (w2.alloc (.cells #[.int .i64 dv, .int .i64 dl, .int .i64 dh] 71))).alloc (Nat.le_refl _) (.cells #[.slice Av nv cv] 35)
  have hK6 := HK6b.out.below hal HK6b.out.lt
  have c6 := hK6.cell 0
  have f6 := hK6.frozen 0
  have d6 := (hK6.set_ 0 (.slice Av nv cv)).cell 0
  have HVF := hide (natV_set (u := .slice Av nv cv) (hv0.below hal) c6 (fun i e => by cases e))
  have HBF := hide ((HB3.out.trans (hal.mono HB3.out.size)).setCell (p := ⟨g6, 0, none⟩) (by rw [HG6.out]; exact Nat.le_refl _) (.slice Av nv cv))
  clear hv0 hal hK6
  go_wp2
  exact bodyPost_ret (v := .agg #[.slice Av nv cv]) (by simp [results, Tryd.results40, go_sem, d6]) rfl ⟨_, f, m, rfl, HVF.out, HI.out.below HBF.out, by have := Nat.one_le_two_pow (n := dep A x); omega, .of_below HBF.out (Nat.le_refl _)⟩
theorem cnAl {u w : World} (h : Below u.heap.size u w) (o : Obj) : Below u.heap.size u (w.alloc o) := h.alloc h.size o
theorem cnDr {u w : World} (h : Below u.heap.size u w) : Below u.heap.size u w.drew := h.drew
theorem cnThen {u X Y : World} (h : Below u.heap.size u X) (k : Below X.heap.size X Y) : Below u.heap.size u Y := h.trans (k.mono h.size)
theorem cnSetNew {S : Nat → Prop} {w w' : World} {g : Nat} {u : Value} (h : Fr S w w') (hg : w.heap.size ≤ g) : Fr S w (w'.setCell ⟨g, 0, none⟩ u) :=
  ⟨h.os, h.tape, h.output, by rw [show (w'.setCell ⟨g, 0, none⟩ u).heap.size = w'.heap.size by simp [World.setCell]]; exact h.size, fun i hi hn => (Below.heap_setCell w' ⟨g, 0, none⟩ u i (by show i ≠ g; omega)).trans (h.block i hi hn)⟩
theorem CnI.set {K : CnB} {S B gn gu gt m g : Nat} {things : Int} {A : Ar} {f : Int → Option Value} {w : World} {u u0 : Value} (h : CnI K S B gn gu gt things A f m w) (hx : Blk w g 35 #[u0]) (hu : ∀ i, u0 ≠ .int .u32 i) : CnI K S B gn gu gt things A f m (w.setCell ⟨g, 0, none⟩ u) := by
  obtain ⟨ns, us, tab, _, h2, h3, h4, h5⟩ := h.ar.is
  have hn : ∀ j, arB B gn gu gt j → j ≠ g := fun j hj => by
    rcases hj with rfl | rfl | rfl | rfl
    · exact h2.ne_ hx (by decide)
    · exact h3.ne_ hx (by decide)
    · exact h4.ne_ hx (by decide)
    · exact h5.ne_ hx (by decide)
  have hgm : K.gd ≠ g := fun e => by
    obtain ⟨es, cc, hm⟩ := h.map.isM
    rw [e] at hm
    cases hm.symm.trans hx
  exact ⟨h.kS.far (h.kS.ne_ hx (by decide)) _, h.ar.keep fun j hj => Below.heap_setCell _ _ _ _ (hn j hj), h.ks.far (h.ks.ne_ hx (by decide)) _, h.kd.far (h.kd.ne_ hx (by decide)) _, h.kf.far (h.kf.ne_ hx (by decide)) _, h.map.same (Below.heap_setCell _ _ _ _ hgm), fun x v e => natV_set (h.vals x v e) (hx.cell 0) hu⟩
theorem CnI.store {K : CnB} {S B gn gu gt m : Nat} {things : Int} {A : Ar} {f : Int → Option Value} {w w' : World} {v : Value} {x : Int} (h : CnI K S B gn gu gt things A f m w) (hm : MapH w' K.gd (fun y => if y = x then some v else f y) (m + 1)) (hg : w.grownBy w' (some K.gd)) (hv : NatV w v (numS (fam A x))) :
    CnI K S B gn gu gt things A (fun y => if y = x then some v else f y) (m + 1) w' := by
  have hf : Fr (fun k => k = K.gd) w w' := (Fr.refl _ w).grown hg (fun k e => by cases e; rfl)
  have nm : ∀ {b : Nat} {t : TypeId} {cs : Array Value}, Blk w b t cs → ¬ b = K.gd := fun hb e => by
    obtain ⟨es, cc, hm⟩ := h.map.isM
    rw [← e] at hm
    cases hm.symm.trans hb
  obtain ⟨ns, us, tab, _, h2, h3, h4, h5⟩ := h.ar.is
  refine ⟨h.kS.fr hf (nm h.kS), h.ar.keep fun k hk => hf.block k (h.ar.lt hk) ?_, h.ks.fr hf (nm h.ks), h.kd.fr hf (nm h.kd), h.kf.fr hf (nm h.kf), hm, fun y u e => ?_⟩
  · rcases hk with rfl | rfl | rfl | rfl
    · exact nm h2
    · exact nm h3
    · exact nm h4
    · exact nm h5
  · split at e
    · rename_i hy
      cases e
      rw [hy]
      exact cnNatFr hv hf h.map.isM
    · exact cnNatFr (h.vals y u e) hf h.map.isM
theorem CnI.mapne {K : CnB} {S B gn gu gt m b : Nat} {things : Int} {A : Ar} {f : Int → Option Value} {w : World} {t : TypeId} {cs : Array Value} (h : CnI K S B gn gu gt things A f m w) (hb : Blk w b t cs) : ¬ b = K.gd := fun e => by
  obtain ⟨es, cc, hm⟩ := h.map.isM
  rw [← e] at hm
  cases hm.symm.trans hb
/-- Both sides are counted, and the sum stands in a box. -/
structure CntR (K : CnB) (S B gn gu gt : Nat) (things : Int) (A : Ar) (m0 : Nat) (N g : Nat) (wr wc : World) : Prop where
  ct : ∃ f' m', CnI K S B gn gu gt things A f' m' wc ∧ m' + 2 ≤ m0
  fr : Fr (fun k => k = K.gd) wr wc
  box : ∃ A1 n1 c1, Blk wc g 35 #[.slice A1 n1 c1] ∧ NatV wc (.agg #[.slice A1 n1 c1]) N
section
variable {K : CnB} {S B gn gu gt m0 m' N g : Nat} {things : Int} {A : Ar} {f' : Int → Option Value} {wr w2 w9 : World} {Ad : Option Addr} {nd cd : Nat}
theorem cnt_new (hc : CnI K S B gn gu gt things A f' m' w2) (hle : m' + 2 ≤ m0) (hb : Below w2.heap.size w2 w9) (hf : Fr (fun k => k = K.gd) wr w9) (hv : NatV w9 (.agg #[.slice Ad nd cd]) N) :
    CntR K S B gn gu gt things A m0 N w9.heap.size wr (w9.alloc (.cells #[.slice Ad nd cd] 35)) :=
  ⟨⟨f', m', hc.below (cnAl hb _), hle⟩, hf.alloc _, Ad, nd, cd, Blk.new w9 _ _, hv.below ((Below.refl w9.heap.size w9).alloc (Nat.le_refl _) _)⟩
theorem cnt_set (hc : CnI K S B gn gu gt things A f' m' w2) (hle : m' + 2 ≤ m0) (hb : Below w2.heap.size w2 w9) (hf : Fr (fun k => k = K.gd) wr w9) (hv : NatV w9 (.agg #[.slice Ad nd cd]) N) (hx : Blk w9 g 35 #[.slice none 0 0]) (hg : wr.heap.size ≤ g) :
    CntR K S B gn gu gt things A m0 N g wr (w9.setCell ⟨g, 0, none⟩ (.slice Ad nd cd)) :=
  ⟨⟨f', m', (hc.below hb).set hx (fun i e => by cases e), hle⟩, cnSetNew hf hg, Ad, nd, cd, hx.set_ 0 _, natV_set hv (hx.cell 0) (fun i e => by cases e)⟩
end
set_option maxRecDepth 100000 in
set_option maxHeartbeats 8000000 in
theorem count_miss (K : CnB) (S B gn gu gt m : Nat) (things : Int) (A : Ar) (f : Int → Option Value) (w : World) (x : Int) (d : Nd) (hI : CnI K S B gn gu gt things A f m w) (hi : I64 x) (hg : gotA A x = some d) (hfx : f x = none)
    (hw : WfA A) (hV : VarA A 6) (hm : m + 2 ^ dep A x ≤ 1000000000)
    (IH : ∀ (y : Int) (m : Nat) (f : Int → Option Value) (w : World), dep A y < dep A x → hasA A y = true → CnI K S B gn gu gt things A f m w → m + 2 ^ dep A y ≤ 1000000000 →
      Calls Tryd.prog 40 #[.int .i64 y, .pointer (some ⟨K.s, 0, none⟩), .pointer (some ⟨K.d, 0, none⟩), .pointer (some ⟨K.f, 0, none⟩)] w (CnQ K S B gn gu gt things A m y w)) :
    Calls Tryd.prog 40 #[.int .i64 x, .pointer (some ⟨K.s, 0, none⟩), .pointer (some ⟨K.d, 0, none⟩), .pointer (some ⟨K.f, 0, none⟩)] w (CnQ K S B gn gu gt things A m x w) := by
  have HNS := Lib.hid (numS_some hw hV (Int.le_refl 6) hg)
  have hdx := hw.dep hg
  have htx := top_some hg
  obtain ⟨dv, dl, dh⟩ := d
  have kl : dv < topA A dl ∧ hasA A dl = true := hw.kid hg false
  have kh : dv < topA A dh ∧ hasA A dh = true := hw.kid hg true
  simp only at HNS htx hdx
  have dll : dep A dl + 1 ≤ dep A x := by unfold dep; have := kl.1; omega
  have dhl : dep A dh + 1 ≤ dep A x := by unfold dep; have := kh.1; omega
  have hpw := cnPow dll dhl
  have hal := (Below.refl w.heap.size w).alloc (Nat.le_refl _) (.cells #[.slice none 0 0] 35)
  have HI := hide hI
  have HI1 := hide (hI.below hal)
  have HK6 := hide (Blk.new w 35 #[.slice none 0 0])
  have HB1 := hide hal
  have s0 := HI1.out.kS.cell 0
  have s1 := HI1.out.ks.cell 0
  have HGT := hide (arGet_some B gn gu gt A x ⟨dv, dl, dh⟩ _ HI1.out.ar hi hg)
  have HIH := Lib.hid IH
  clear hal hI hg IH hw hV
  go_enter Tryd.func40, Tryd.ntmps40
  go_wp2_with fail
  obtain ⟨g6, HG6⟩ : ∃ g6, Hid (w.heap.size = g6) := ⟨_, Lib.hid rfl⟩
  rw [HG6.out] at HK6 ⊢
  generalize (w.alloc (.cells #[.slice none 0 0] 35)) = w1 at HI1 HK6 HB1 s0 s1 HGT ⊢
  refine (HGT.out).mono ?_
  rintro e w2 ⟨rfl, hb2⟩
  have hb3 := hb2.alloc hb2.size (.cells #[.int .i64 dv, .int .i64 dl, .int .i64 dh] 71)
  have HI3 := hide (HI1.out.below hb3)
  have HB3 := hide (HB1.out.trans (hb3.mono HB1.out.size))
  have HK6b := hide (HK6.out.below hb3 HK6.out.lt)
  have HK7 := hide (Blk.new w2 71 #[.int .i64 dv, .int .i64 dl, .int .i64 dh])
  have hlk := HI3.out.map.lookRun x hi
  have d0 := HI3.out.kd.cell 0
  clear hb2 hb3 HI1 HB1 HK6 HGT s0 s1
  rw [hfx] at hlk
  have hal := (Below.refl _ (w2.alloc (.cells #[.int .i64 dv, .int .i64 dl, .int .i64 dh] 71))).alloc (Nat.le_refl _) (.cells #[.slice none 0 0] 35)
  have HI7 := hide (HI3.out.below hal)
  have HB7 := hide (HB3.out.trans (hal.mono HB3.out.size))
  have HK6c := hide (HK6b.out.below hal HK6b.out.lt)
  have HK7c := hide (HK7.out.below hal HK7.out.lt)
  clear hal HI3 HB3 HK6b HK7
  go_upto_region 7 with fail
  obtain ⟨g7, HG7⟩ : ∃ g7, Hid (w2.heap.size = g7) := ⟨_, Lib.hid rfl⟩
  rw [HG7.out] at HK7c ⊢
  generalize (w2.alloc (.cells #[.int .i64 dv, .int .i64 dl, .int .i64 dh] 71)).alloc (.cells #[.slice none 0 0] 35) = wr at HI7 HB7 HK6c HK7c ⊢
  clear hlk d0
  have hmp := HI7.out.map.isM
  have nb : ∀ {b : Nat} {t : TypeId} {cs : Array Value}, Blk wr b t cs → ¬ b = K.gd := fun hb e => by
    obtain ⟨es, cc, hm⟩ := hmp
    rw [← e] at hm
    cases hm.symm.trans hb
  have HKP := Lib.hid (fun (w' : World) (hf : Fr (fun k => k = K.gd) wr w') => show w'.cell? ⟨K.f, 0, none⟩ = some (.func (.func 40) #[] #[.pointer (some ⟨K.s, 0, none⟩), .pointer (some ⟨K.d, 0, none⟩), .pointer (some ⟨K.f, 0, none⟩)]) ∧ w'.cell? ⟨g7, 1, none⟩ = some (.int .i64 dl) ∧ w'.cell? ⟨g7, 2, none⟩ = some (.int .i64 dh) from
    ⟨(HI7.out.kf.fr hf (nb HI7.out.kf)).cell 0, (HK7c.out.fr hf (nb HK7c.out)).cell 1, (HK7c.out.fr hf (nb HK7c.out)).cell 2⟩)
  have HC1 := Lib.hid (fun (w' : World) (hb : Below wr.heap.size wr w') => (HIH.out dl m f w' (by omega) kl.2 (HI7.out.below hb) (by have := Nat.one_le_two_pow (n := dep A dh); omega)).mono fun e w1 hp =>
    show ∃ v f' m', e = .returned v ∧ NatV w1 v (numS (fam A dl)) ∧ CnI K S B gn gu gt things A f' m' w1 ∧ m' + 1 ≤ m + 2 ^ dep A dl ∧ Fr (fun k => k = K.gd) wr w1 ∧ Fr (fun k => k = K.gd) w' w1 from by
      obtain ⟨v, f', m', h1, h2, h3, h4, h5⟩ := hp
      exact ⟨v, f', m', h1, h2, h3, h4, (Fr.of_below hb (Nat.le_refl _)).trans h5, h5⟩)
  have HC2 := Lib.hid (fun (w1 : World) (f1 : Int → Option Value) (m1 : Nat) (h1 : CnI K S B gn gu gt things A f1 m1 w1) (h2 : m1 + 1 ≤ m + 2 ^ dep A dl) (hf1 : Fr (fun k => k = K.gd) wr w1) (w' : World) (hb : Below w1.heap.size w1 w') => (HIH.out dh m1 f1 w' (by omega) kh.2 (h1.below hb) (by omega)).mono fun e w2 hp =>
    show ∃ v f' m', e = .returned v ∧ NatV w2 v (numS (fam A dh)) ∧ CnI K S B gn gu gt things A f' m' w2 ∧ m' + 2 ≤ m + 2 ^ dep A x ∧ Fr (fun k => k = K.gd) w1 w2 ∧ Fr (fun k => k = K.gd) wr w2 ∧ Fr (fun k => k = K.gd) w' w2 from by
      obtain ⟨v, f', m', h1, h2, h3, h4, h5⟩ := hp
      exact ⟨v, f', m', h1, h2, h3, by omega, (Fr.of_below hb (Nat.le_refl _)).trans h5, hf1.trans ((Fr.of_below hb (Nat.le_refl _)).trans h5), h5⟩)
  have HAD := Lib.hid (fun (w' : World) (v1 v2 : Value) (h1 : NatV w' v1 (numS (fam A dl))) (h2 : NatV w' v2 (numS (fam A dh))) => (cnAddV v1 v2 _ _ w' h1 h2 (cnSmall (numS_le _)) (cnSmall (numS_le _))).mono fun e w9 hp =>
    show ∃ Ad nd cd, e = .returned (.agg #[.slice Ad nd cd]) ∧ NatV w9 (.agg #[.slice Ad nd cd]) (numS (fam A x)) ∧ Below w'.heap.size w' w9 from by
      obtain ⟨v, h1, h2, h3⟩ := hp
      obtain ⟨Ad, nd, cd, rfl⟩ := h2.form
      exact ⟨Ad, nd, cd, h1, by rw [HNS.out]; exact h2, h3⟩)
  have hgd := HI7.out.map.lt
  have hnq : ∀ q, wr.heap.size ≤ q → ¬ q = K.gd := fun q hq e => by omega
  obtain ⟨c0, c1, c2⟩ := HKP.out wr (.refl _ _)
  clear hmp
  go_cut [10] from 41 (fun s10 wc => ∃ g10, s10 = .pointer (some ⟨g10, 0, none⟩) ∧ Hid (CntR K S B gn gu gt things A (m + 2 ^ dep A x) (numS (fam A x)) g10 wr wc))
  case first =>
    go_region_held3 (fun w' => w'.cell? ⟨K.f, 0, none⟩ = some (.func (.func 40) #[] #[.pointer (some ⟨K.s, 0, none⟩), .pointer (some ⟨K.d, 0, none⟩), .pointer (some ⟨K.f, 0, none⟩)]) ∧ w'.cell? ⟨g7, 1, none⟩ = some (.int .i64 dl) ∧ w'.cell? ⟨g7, 2, none⟩ = some (.int .i64 dh))
      (first | assumption | exact ⟨c0, c1, c2⟩ | (refine HKP.out _ ?_; (repeat (first | exact Fr.refl _ _ | exact (Fr.refl _ _).drew | exact hf9 | exact hfb | exact hf1 | refine Fr.alloc ?_ _ | refine Fr.drew ?_ | refine cnSetNew ?_ hfb.size | refine cnSetNew ?_ hf1.size | refine cnSetNew ?_ (Nat.le_refl _))); done))
      (first
        | (go_at_call 40; have hq := hv1; clear hq; refine (HC2.out _ _ _ hct1 hle1 hf1 _ ?_).mono ?_; (focus ((repeat (first | exact Below.refl _ _ | exact (Below.refl _ _).drew | refine cnAl ?_ _ | refine cnDr ?_)); done)); rintro e wb ⟨v2, f2, m2, rfl, hv2, hct2, hle2, hf2, hfb, hf0⟩; have hv12 := cnNatFr hv1 hf2 hct1.map.isM; (first | have hx := Blk.fr (Blk.new _ 35 #[.slice none 0 0]) hf0 (hnq _ hf1.size) | have hx := Blk.fr (Blk.drew (Blk.new _ 35 #[.slice none 0 0])) hf0 (hnq _ hf1.size) | have hx := Blk.fr hx hf0 (hct1.mapne hx) | have hx := Blk.fr (Blk.drew hx) hf0 (hct1.mapne hx) | skip))
        | (go_at_call 40; refine (HC1.out _ ?_).mono ?_; (focus ((repeat (first | exact Below.refl _ _ | exact (Below.refl _ _).drew | refine cnAl ?_ _ | refine cnDr ?_)); done)); rintro e wa ⟨v1, f1, m1, rfl, hv1, hct1, hle1, hf1, hf0⟩; (first | have hx := Blk.fr (Blk.new _ 35 #[.slice none 0 0]) hf0 (hnq _ (Nat.le_refl _)) | have hx := Blk.fr (Blk.drew (Blk.new _ 35 #[.slice none 0 0])) hf0 (hnq _ (Nat.le_refl _)) | skip))
        | (go_at_call 42; refine (HAD.out _ _ _ (hv12.below ?_) (hv2.below ?_)).mono ?_; (focus ((repeat (first | exact Below.refl _ _ | exact (Below.refl _ _).drew | refine cnAl ?_ _ | refine cnDr ?_)); done)); (focus ((repeat (first | exact Below.refl _ _ | exact (Below.refl _ _).drew | refine cnAl ?_ _ | refine cnDr ?_)); done)); rintro e wd ⟨Ad, nd, cd, rfl, hvd, hbd⟩; (refine (fun (hf9 : Fr (fun k => k = K.gd) wr wd) => ?_) ?_; rotate_left; (focus (refine Fr.trans ?_ (Fr.of_below hbd (Nat.le_refl _)); (repeat (first | exact hfb | refine Fr.alloc ?_ _ | refine Fr.drew ?_)); done))); (refine (fun (hbb : Below wb.heap.size wb wd) => ?_) ?_; rotate_left; (focus (refine cnThen ?_ hbd; (repeat (first | exact Below.refl _ _ | exact (Below.refl _ _).drew | refine cnAl ?_ _ | refine cnDr ?_)); done))); (first | have hx := Blk.below (Blk.new _ 35 #[.slice none 0 0]) hbd (Blk.lt (Blk.new _ _ _)) | have hx := Blk.below (Blk.drew (Blk.new _ 35 #[.slice none 0 0])) hbd (Blk.lt (Blk.drew (Blk.new _ _ _))) | have hx := Blk.below hx hbd (Blk.lt hx) | skip); (first | have cx := Blk.cell hx 0 | skip); (first | have fx := Blk.frozen hx 0 | skip)))
    all_goals
      first
        | (have HH := hide (cnt_set hct2 hle2 hbb hf9 hvd hx (by first | exact hfb.size | exact hf1.size | exact Nat.le_refl _)); clear hct1 hct2 hf1 hf2 hfb hf9 hvd hbd hbb HKP HC1 HC2 HAD hx; go_wp2; go_meet; case rel => exact ⟨_, rfl, HH⟩)
        | (have HH := hide (cnt_new hct2 hle2 hbb hf9 hvd); clear hct1 hct2 hf1 hf2 hfb hf9 hvd hbd hbb HKP HC1 HC2 HAD; go_wp2; go_meet; case rel => exact ⟨_, rfl, HH⟩)
  case rest =>
    obtain ⟨g10, rfl, HH⟩ := hcut
    obtain ⟨f2, m2, hct2, hle2⟩ := HH.out.ct
    obtain ⟨A9, n9, c9, hx, hv⟩ := HH.out.box
    have HFR := hide HH.out.fr
    have HC9 := hide hct2
    have HV9 := hide hv
    have HK13 := hide hx
    have HK69 := hide (HK6c.out.fr HFR.out (nb HK6c.out))
    have q13 := hx.cell 0
    have d0 := HC9.out.kd.cell 0
    clear HH hct2 hv hx HKP HC1 HC2 HAD c0 c1 c2
    go_wp2_with (first
      | (refine storeH rfl _ _ _ rfl rfl HC9.out.map x (.agg #[.slice A9 n9 c9]) rfl rfl hi (by omega) ?_; intro w10 hm10 hg10; have hgf : Fr (fun k => k = K.gd) _ w10 := ((Fr.refl _ _).grown hg10 (fun k e => by cases e; rfl)); have q13' := (HK13.out.fr hgf (HC9.out.mapne HK13.out)).cell 0; have hk6' := HK69.out.fr hgf (HC9.out.mapne HK69.out); have q6 := hk6'.cell 0; have f6 := hk6'.frozen 0; have d6 := (hk6'.set_ 0 (.slice A9 n9 c9)).cell 0; have hcs := HC9.out.store hm10 hg10 HV9.out; have hv10 := cnNatFr HV9.out hgf HC9.out.map.isM)
      | fail)
    exact bodyPost_ret (v := .agg #[.slice A9 n9 c9]) (by simp [results, Tryd.results40, go_sem, d6]) rfl
      ⟨_, _, _, rfl, natV_set hv10 (hk6'.cell 0) (fun i e => by cases e), hcs.set hk6' (fun i e => by cases e), by omega, cnSetNew ((Fr.of_below HB7.out (Nat.le_refl _)).trans (HFR.out.trans hgf)) (by rw [HG6.out]; exact Nat.le_refl _)⟩

theorem count_all (K : CnB) (S B gn gu gt : Nat) (things : Int) (A : Ar) (hw : WfA A) (hV : VarA A 6) : ∀ (n : Nat) (x : Int) (m : Nat) (f : Int → Option Value) (w : World), dep A x ≤ n → hasA A x = true → CnI K S B gn gu gt things A f m w → m + 2 ^ dep A x ≤ 1000000000 →
    Calls Tryd.prog 40 #[.int .i64 x, .pointer (some ⟨K.s, 0, none⟩), .pointer (some ⟨K.d, 0, none⟩), .pointer (some ⟨K.f, 0, none⟩)] w (CnQ K S B gn gu gt things A m x w) := by
  intro n
  induction n with
  | zero =>
    intro x m f w hd hx hI hm
    cases hg : gotA A x with
    | none => exact count_end K S B gn gu gt m things A f w x hI (end_two hx hg)
    | some d => have := hw.dep hg; unfold dep at hd; omega
  | succ n ih =>
    intro x m f w hd hx hI hm
    cases hg : gotA A x with
    | none => exact count_end K S B gn gu gt m things A f w x hI (end_two hx hg)
    | some d =>
      have hi : I64 x := by
        obtain ⟨k, rfl, hk, _⟩ := gotA_is hg
        have := hI.ar.room
        unfold I64; omega
      cases hfx : f x with
      | some v0 => exact count_known K S B gn gu gt m things A f w x d v0 hI hi hg hfx
      | none => exact count_miss K S B gn gu gt m things A f w x d hI hi hg hfx hw hV hm fun y m' f' w' h1 h2 h3 h4 => ih y m' f' w' (by omega) h2 h3 h4
end Go.Proofs.YtdlcldhnbhlikaaDoor
namespace Go.Proofs.YtdlcldhnbhlikaaDoor
open Go.RowKit Go.Maps

def CnP (w : World) (N : Nat) (e : Ending) (w' : World) : Prop := ∃ v, e = .returned (.tuple #[v, .nilIface]) ∧ NatV w' v N ∧ Below w.heap.size w w'
def cnK (n q : Nat) : CnB := ⟨n, q + 1, q + 1 + 1, q⟩
def cnW (w2 : World) (n : Nat) : World := ((w2.alloc (.map #[] 0)).alloc (.cells #[.map (some w2.heap.size)] 75)).alloc (.cells #[cntV (cnK n w2.heap.size)] 76)
/-- Count's boxes, as they are laid. -/
theorem cn_start {w2 : World} {n S B gn gu gt : Nat} {things : Int} {A : Ar} (h : FsV w2 S B gn gu gt things A) (k : Blk w2 n 23 #[.pointer (some ⟨S, 0, none⟩)]) :
    CnI (cnK n w2.heap.size) S B gn gu gt things A (fun _ => none) 0 (cnW w2 n) ∧ Below w2.heap.size w2 (cnW w2 n) := by
  unfold cnW
  have m1 := mapH_made w2
  have b1 := (Below.refl w2.heap.size w2).alloc (Nat.le_refl _) (.map #[] 0)
  have l1 : (w2.alloc (.map #[] 0)).heap.size = w2.heap.size + 1 := by simp
  generalize hq : w2.heap.size = q at m1 l1 ⊢
  generalize w2.alloc (.map #[] 0) = wa at m1 b1 l1 ⊢
  have k2 := Blk.new wa 75 #[.map (some q)]
  rw [l1] at k2
  have b2 := b1.alloc b1.size (.cells #[.map (some q)] 75)
  have d2 := (Below.refl wa.heap.size wa).alloc (Nat.le_refl _) (.cells #[.map (some q)] 75)
  have m2 := m1.below d2
  have l2 : (wa.alloc (.cells #[.map (some q)] 75)).heap.size = q + 1 + 1 := by simp [l1]
  generalize wa.alloc (.cells #[.map (some q)] 75) = wb at k2 b2 m2 l2 ⊢
  have k3 := Blk.new wb 76 #[cntV (cnK n q)]
  rw [l2] at k3
  have b3 := b2.alloc b2.size (.cells #[cntV (cnK n q)] 76)
  have d3 := (Below.refl wb.heap.size wb).alloc (Nat.le_refl _) (.cells #[cntV (cnK n q)] 76)
  have hf := h.below b3
  exact ⟨⟨hf.kS, hf.ar, k.below b3 k.lt, k2.below d3 k2.lt, k3, m2.below d3, fun x v e => by cases e⟩, hq ▸ b3⟩
section
variable (S B gn gu gt : Nat) (things : Int) (A : Ar) (w : World)
set_option maxRecDepth 100000 in
set_option maxHeartbeats 4000000 in
theorem fzCount_v (x : Int) (h : FsV w S B gn gu gt things A) (p : hasA A x = true) :
    Calls Tryd.prog 13 #[.pointer (some ⟨S, 0, none⟩), .int .i64 x] w (CnP w (numS (fam A x))) := by
  have hmm := @run_makeMap Tryd.prog
  have hmf : ∀ (fn : Fn) (first cap : Array Value) (w : World), (Instr.makeFunc fn first cap).run Tryd.prog w = .ok (.func fn first cap) w := by intros; rfl
  have hb1 := (Below.refl w.heap.size w).alloc (Nat.le_refl _) (.cells #[.pointer (some ⟨S, 0, none⟩)] 23)
  have hb2 := hb1.alloc hb1.size (.cells #[.slice none 0 0] 35)
  have k1 := (Blk.new w 23 #[.pointer (some ⟨S, 0, none⟩)]).alloc (.cells #[.slice none 0 0] 35)
  have k2 := Blk.new (w.alloc (.cells #[.pointer (some ⟨S, 0, none⟩)] 23)) 35 #[.slice none 0 0]
  have z1 : (w.alloc (.cells #[.pointer (some ⟨S, 0, none⟩)] 23)).heap.size = w.heap.size + 1 := by simp
  have z2 : ((w.alloc (.cells #[.pointer (some ⟨S, 0, none⟩)] 23)).alloc (.cells #[.slice none 0 0] 35)).heap.size = w.heap.size + 1 + 1 := by simp
  rw [z1] at k2
  have h2 := h.below hb2
  have HH := hide (has_call_v x h2 (h2.i64 p) _ p)
  have s0 := h2.kS.cell 0
  have HW := hide h2
  have HB := hide hb2
  have HK1 := hide k1
  have HK2 := hide k2
  have HZ := Lib.hid z2
  clear h hb1 hb2 k1 k2 z1 z2 h2
  go_enter Tryd.func13, Tryd.ntmps13
  go_wp2_with fail
  refine (HH.out).mono ?_
  rintro e w1 ⟨rfl, rfl⟩
  generalize ((w.alloc (.cells #[.pointer (some ⟨S, 0, none⟩)] 23)).alloc (.cells #[.slice none 0 0] 35)) = w2 at HW HB HK1 HK2 HZ s0 ⊢
  obtain ⟨n, HN⟩ : ∃ n, Hid (w.heap.size = n) := ⟨_, Lib.hid rfl⟩
  rw [HN.out] at HK1 HK2 HZ ⊢
  go_wp2_with fail
  obtain ⟨hI, hbI⟩ := cn_start HW.out HK1.out
  have hw := HW.out
  have HC := hide (count_all (cnK n w2.heap.size) S B gn gu gt things A hw.wf hw.va _ x 0 _ _ (Nat.le_refl _) p hI (by
    have h1 : dep A x ≤ 24 := by unfold dep; have := (hw.wf.topR x).1; omega
    have h2 : 2 ^ dep A x ≤ 2 ^ 24 := Nat.pow_le_pow_right (by omega) h1
    have h3 : (2 : Nat) ^ 24 ≤ 1000000000 := by decide
    omega))
  have HBI := hide (HB.out.trans (hbI.mono HB.out.size))
  have HK2I := hide (HK2.out.below hbI HK2.out.lt)
  have HQ := Lib.hid (show n + 1 < w2.heap.size by rw [HZ.out]; omega)
  have HBI2 := hide hbI
  clear hI hbI hw
  refine (HC.out).mono ?_
  rintro e w3 ⟨v, f', m', rfl, hv, _, _, hf⟩
  obtain ⟨Av, nv, cv, rfl⟩ := hv.form
  have hk := HK2I.out.fr hf (show ¬ n + 1 = w2.heap.size by have := HQ.out; omega)
  have c4 := hk.cell 0
  have f4 := hk.frozen 0
  have d9 := (hk.set_ 0 (.slice Av nv cv)).cell 0
  have HV9 := hide (natV_set (u := .slice Av nv cv) hv c4 (fun i e => by cases e))
  have HB9 := hide ((HBI.out.trans (hf.to_below HBI.out.size (fun k hk e => by
    have e : k = w2.heap.size := e
    have := HN.out
    have := HZ.out
    omega))).setCell (p := ⟨n + 1, 0, none⟩) (by rw [HN.out]; exact Nat.le_succ n) (.slice Av nv cv))
  clear hv hk hf HC HK2I HBI HBI2
  go_wp2
  exact bodyPost_ret (v := .tuple #[.agg #[.slice Av nv cv], .nilIface]) (by simp [results, Tryd.results13, go_sem, d9]) rfl ⟨_, rfl, HV9.out, HB9.out⟩
theorem fzCount_any (x : Int) (h : FsM w S B gn gu gt things A) (p : hasA A x = true) :
    Calls Tryd.prog 13 #[.pointer (some ⟨S, 0, none⟩), .int .i64 x] w (CnP w (numS (fam A x))) := fzCount_v S B gn gu gt things A w x h.toV p
end
end Go.Proofs.YtdlcldhnbhlikaaDoor
namespace Go.Proofs.YtdlcldhnbhlikaaDoor
open Go.RowKit Go.Maps

/-- Each set is of the things that there are. -/
theorem fam_bits {A : Ar} {things : Int} (hw : WfA A) (hV : VarA A things) : ∀ (n : Nat) (x : Int) (s : Nat), dep A x ≤ n → fam A x s = true → ∀ y : Nat, things ≤ (y : Int) → s.testBit y = false := by
  intro n
  induction n with
  | zero =>
    intro x s hd hf y hy
    cases e : gotA A x with
    | none => rw [fam_none e, Bool.and_eq_true, beq_iff_eq, beq_iff_eq] at hf; rw [hf.2]; simp
    | some d => have := hw.dep e; unfold dep at hd; omega
  | succ n ih =>
    intro x s hd hf y hy
    cases e : gotA A x with
    | none => rw [fam_none e, Bool.and_eq_true, beq_iff_eq, beq_iff_eq] at hf; rw [hf.2]; simp
    | some d =>
      have hv := hV _ _ e
      have h0 := (hw.var _ _ e).1
      have ht := top_some e
      have kl : d.var < topA A d.low := (hw.kid e false).1
      have kh : d.var < topA A d.high := (hw.kid e true).1
      have hdd := hw.dep e
      rw [fam_some hw e] at hf
      split at hf
      · have := ih d.high _ (by unfold dep at hd ⊢; omega) hf y hy
        rw [clr_bit, show decide (d.var.toNat = y) = false from decide_eq_false (by omega)] at this
        simpa using this
      · exact ih d.low _ (by unfold dep at hd ⊢; omega) hf y hy
theorem fam_dom {A : Ar} {x : Int} (hw : WfA A) (hV : VarA A 6) (s : Nat) (hf : fam A x s = true) : s < 64 :=
  Nat.lt_pow_two_of_testBit (n := 6) _ fun y hy => fam_bits hw hV _ x s (Nat.le_refl _) hf y (by omega)
def lsK (n q : Nat) : LsB := ⟨n, q + 1 + 1, q, q + 1⟩
def lsW (w4 : World) (n : Nat) : World := ((w4.alloc (.cells #[listV (lsK n w4.heap.size)] 81)).alloc (.map #[] 0)).alloc (.cells #[.map (some (w4.heap.size + 1))] 45)
/-- List's boxes, as they are laid. -/
theorem ls_start {w2 : World} {n S B gn gu gt : Nat} {things : Int} {A : Ar} (h : FsV w2 S B gn gu gt things A) (k : Blk w2 n 23 #[.pointer (some ⟨S, 0, none⟩)]) :
    LsI (lsK n w2.heap.size) S B gn gu gt things A (fun _ => false) (lsW w2 n) ∧ Below w2.heap.size w2 (lsW w2 n) := by
  unfold lsW
  have k1 := Blk.new w2 81 #[listV (lsK n w2.heap.size)]
  have b1 := (Below.refl w2.heap.size w2).alloc (Nat.le_refl _) (.cells #[listV (lsK n w2.heap.size)] 81)
  have l1 : (w2.alloc (.cells #[listV (lsK n w2.heap.size)] 81)).heap.size = w2.heap.size + 1 := by simp
  generalize hq : w2.heap.size = q at k1 l1 ⊢
  rw [hq] at b1
  generalize w2.alloc (.cells #[listV (lsK n q)] 81) = wa at k1 b1 l1 ⊢
  have m2 := mapU_made wa
  rw [l1] at m2
  have d2 := (Below.refl wa.heap.size wa).alloc (Nat.le_refl _) (.map #[] 0)
  have b2 := b1.alloc (by omega) (.map #[] 0)
  have k1 := k1.below d2 k1.lt
  have l2 : (wa.alloc (.map #[] 0)).heap.size = q + 1 + 1 := by simp [l1]
  generalize wa.alloc (.map #[] 0) = wb at k1 b2 m2 l2 ⊢
  have k3 := Blk.new wb 45 #[.map (some (q + 1))]
  rw [l2] at k3
  have d3 := (Below.refl wb.heap.size wb).alloc (Nat.le_refl _) (.cells #[.map (some (q + 1))] 45)
  have b3 := b2.alloc (by omega) (.cells #[.map (some (q + 1))] 45)
  have k1 := k1.below d3 k1.lt
  have m3 := m2.below d3 m2.lt
  have b4 : Below w2.heap.size w2 (wb.alloc (.cells #[.map (some (q + 1))] 45)) := by rw [hq]; exact b3
  have hf := h.below b4
  exact ⟨⟨hf.kS, hf.ar, k.below b4 k.lt, k3, k1, m3⟩, b3⟩
/-- What has come so far, in any order. -/
structure AnyL (F left : Nat → Bool) (l : List Nat) : Prop where
  nd : l.Nodup
  mem : ∀ x, x ∈ l ↔ F x = true ∧ left x = false
theorem any_start (F : Nat → Bool) : AnyL F F [] := ⟨List.nodup_nil, fun x => ⟨fun h => (by cases h), fun h => by rw [h.1] at h; cases h.2⟩⟩
theorem any_put {F left : Nat → Bool} {l : List Nat} {s : Nat} (h : AnyL F left l) (hF : F s = true) (hl : left s = true) : AnyL F (fun u => left u && !(u == s)) (l ++ [s]) := by
  have hn : s ∉ l := fun e => by have := ((h.mem s).1 e).2; rw [hl] at this; cases this
  refine ⟨List.nodup_append.2 ⟨h.nd, by simp, fun a ha b hb => ?_⟩, fun x => ?_⟩
  · rw [List.mem_singleton.1 hb]
    exact fun e => hn (e ▸ ha)
  · rw [List.mem_append, List.mem_singleton, h.mem]
    by_cases e : x = s
    · subst e; simp [hF]
    · simp [e]
theorem any_few {F left : Nat → Bool} {l : List Nat} (h : AnyL F left l) (hd : ∀ s, F s = true → s < 64) : l.length ≤ 64 := nodup_few 64 l h.nd fun x hx => hd x ((h.mem x).1 hx).1
theorem any_end {F left : Nat → Bool} {l l' : List Nat} (h : AnyL F left l) (hd : ∀ s, F s = true → s < 64) (hl : ∀ s, s < 64 → left s = false) (hp : l'.Perm l) (hu : l'.Pairwise (· < ·)) : l' = setsL F :=
  up_ext l' _ hu (sets_up F) fun x => by rw [hp.mem_iff, h.mem, sets_mem hd]; exact ⟨fun h => h.1, fun e => ⟨e, hl x (hd x e)⟩⟩
/-- Where the walk over the map stands. -/
structure LoI (w : World) (gF r : Nat) (F left : Nat → Bool) (vo : Value) (wr : World) : Prop where
  rng : RngU wr gF r F left
  own : ∃ l, OwnU wr (r + 1) vo l ∧ AnyL F left l
  bel : Below w.heap.size w wr
  ge : w.heap.size ≤ r ∧ gF < r
set_option maxHeartbeats 1000000 in
theorem sortUp_nil (c : Nat) (w : World) : Calls Tryd.prog 45 #[.slice none 0 c] w (fun e w' => e = .returned (.tuple #[]) ∧ w' = w) := by
  go_enter Tryd.func45, Tryd.ntmps45
  go_wp2
  go_loopw [2] (fun iv wr => iv = .int .i64 1 ∧ wr = w) (fun _ _ => 0)
  case atStart => exact ⟨rfl, rfl⟩
  case round =>
    obtain ⟨rfl, rfl⟩ := hrel
    go_wp2
    (try simp only [Exit.inBlock, Exit.then]); first | refine bodyPost_end (results_none rfl _ _ _) rfl ?_ | refine bodyPost_ret (results_none rfl _ _ _) rfl ?_
    exact ⟨rfl, rfl⟩
theorem OwnU.lt' {w : World} {base : Nat} {v : Value} {zs : List Nat} (h : OwnU w base v zs) : ∀ k, v.ownBlock = some k → base ≤ k := fun k hk => (World.ownsRow.lt h k hk).1
/-- What List answers. -/
def ListP (w : World) (F : Nat → Bool) (most : Int) (e : Ending) (w' : World) : Prop :=
  (((numS F : Int) ≤ most ∧ ∃ v, e = .returned (.tuple #[v, .nilIface]) ∧ OwnU w' w.heap.size v (setsL F)) ∨ (most < (numS F : Int) ∧ e = .returned (.tuple #[.slice none 0 0, .iface 29 (.int .i64 4)]))) ∧ Below w.heap.size w w'
section
variable (S B gn gu gt : Nat) (things : Int) (A : Ar) (w : World)
set_option maxRecDepth 100000 in
set_option maxHeartbeats 8000000 in
theorem fzList_v (x most : Int) (h : FsV w S B gn gu gt things A) (p : hasA A x = true) :
    Calls Tryd.prog 14 #[.pointer (some ⟨S, 0, none⟩), .int .i64 x, .int .i64 most] w (ListP w (fam A x) most) := by
  have hmm := @run_makeMap Tryd.prog
  have hmf : ∀ (fn : Fn) (first cap : Array Value) (w : World), (Instr.makeFunc fn first cap).run Tryd.prog w = .ok (.func fn first cap) w := by intros; rfl
  have hb1 := (Below.refl w.heap.size w).alloc (Nat.le_refl _) (.cells #[.pointer (some ⟨S, 0, none⟩)] 23)
  have k1 := Blk.new w 23 #[.pointer (some ⟨S, 0, none⟩)]
  have HW := hide (h.below hb1)
  have HK1 := hide k1
  have HB := hide hb1
  have HC := hide (fzCount_v S B gn gu gt things A _ x (h.below hb1) p)
  have hn := numS_le (fam A x)
  have hdom : ∀ s, fam A x s = true → s < 64 := fun s e => fam_dom h.wf h.va s e
  obtain ⟨N, hNe⟩ : ∃ N, numS (fam A x) = N := ⟨_, rfl⟩
  have HNE := Lib.hid hNe
  rw [hNe] at HC hn
  clear hNe
  clear h hb1 k1
  go_enter Tryd.func14, Tryd.ntmps14
  go_wp2_with fail
  generalize (w.alloc (.cells #[.pointer (some ⟨S, 0, none⟩)] 23)) = w1 at HW HK1 HB HC ⊢
  obtain ⟨n, HN⟩ : ∃ n, Hid (w.heap.size = n) := ⟨_, Lib.hid rfl⟩
  rw [HN.out] at HK1 ⊢
  refine (HC.out).mono ?_
  rintro e w2 ⟨v, rfl, hv, hb2⟩
  obtain ⟨Av, nv, cv, rfl⟩ := hv.form
  have hal := (Below.refl w2.heap.size w2).alloc (Nat.le_refl _) (.cells #[.slice Av nv cv] 35)
  have HB3 := hide (HB.out.trans ((hb2.trans (hal.mono hb2.size)).mono HB.out.size))
  have HW3 := hide ((HW.out.below hb2).below hal)
  have HK3 := hide ((HK1.out.below hb2 HK1.out.lt).below hal (Nat.lt_of_lt_of_le HK1.out.lt hb2.size))
  have HK8 := hide (Blk.new w2 35 #[.slice Av nv cv])
  have HV3 := hide (hv.below hal)
  clear hv hb2 hal HC HW HB HK1
  go_wp2_with fail
  generalize (w2.alloc (.cells #[.slice Av nv cv] 35)) = w3 at HB3 HW3 HK3 HK8 HV3 ⊢
  generalize w2.heap.size = g8 at HK8 ⊢
  have HF := hide (fits_any _ N w3 HV3.out)
  unfold FitsPost fitsV at HF
  rw [if_pos (by omega)] at HF
  refine (HF.out).mono ?_
  rintro e w4 ⟨rfl, hb4⟩
  have HB4 := hide (HB3.out.trans (hb4.mono HB3.out.size))
  have HW4 := hide (HW3.out.below hb4)
  have HK4 := hide (HK3.out.below hb4 HK3.out.lt)
  clear hb4 HF HB3 HW3 HK3 HK8 HV3
  by_cases hm : most < (N : Int)
  · go_wp2
    go_ret2
    exact ⟨.inr ⟨by rw [HNE.out]; exact hm, rfl⟩, HB4.out⟩
  have hmm2 : ¬ most < (N : Int) := hm
  obtain ⟨hI, hbI⟩ := ls_start HW4.out HK4.out
  have hsp := HW4.out
  have HDM := Lib.hid (fun s (e : fam A x s = true) => hdom s e)
  have HC := hide (list_all (lsK n w4.heap.size) S B gn gu gt things A hsp.wf hsp.va _ 0 x 0 (fun _ => false) _ (Nat.le_refl _) p hI (by decide))
  have HBI := hide (HB4.out.trans (hbI.mono HB4.out.size))
  have HBI2 := hide hbI
  clear hI hbI hsp hdom
  go_wp2_with fail
  refine (HC.out).mono ?_
  rintro e w5 ⟨rfl, hI5, hf5⟩
  have hmp := hI5.mp.congr (f' := fam A x) (fun s => by show (false || lstF A x 0 s) = _; rw [lst_top]; rfl)
  have HM5 := hide hmp
  have d0 := hI5.km.cell 0
  have HB5 := hide (HBI.out.trans ((hf5.to_below (B := w4.heap.size) HBI2.out.size (fun k hk e => by
    have e : k = w4.heap.size + 1 := e
    omega)).mono HB4.out.size))
  have hgl := hmp.lt
  unfold lsK at hmp d0 HM5 hgl
  simp only at hmp d0 HM5 hgl
  have HQ := Lib.hid HB4.out.size
  generalize w4.heap.size + 1 = gm at hmp d0 HM5 hgl ⊢
  clear hmp hI5 hf5 HC HBI HBI2 HW4 HK4
  go_wp2_with (first
    | (at_range; refine rangeU rfl _ 45 rfl Tryd.underlying45 rfl HM5.out ?_; intro w6 hr6 hg6 hs6)
    | fail)
  go_frame
  obtain ⟨r, HR⟩ : ∃ r, Hid (w5.heap.size = r) := ⟨_, Lib.hid rfl⟩
  rw [HR.out] at hr6 hs6 ⊢
  have HST := hide (show LoI w gm r (fam A x) (fam A x) (.slice none 0 0) w6 from ⟨hr6, ⟨[], ownU_nil _ _, any_start _⟩, HB5.out.grown hg6 HB5.out.size (fun j hj => by cases hj), by have := HR.out; have := HB5.out.size; omega, by have := HR.out; omega⟩)
  clear hr6 hg6 hs6 HM5 hgl d0
  obtain ⟨F, HFE⟩ : ∃ F, Hid (fam A x = F) := ⟨_, Lib.hid rfl⟩
  rw [HFE.out] at HST HDM HNE
  go_loopw [12, 15] (fun vo _ wr => ∃ left : Nat → Bool, Hid (LoI w gm r F left vo wr)) (fun _ _ wr => wr.rangeLeft gm r)
  case atStart => exact ⟨F, HST⟩
  case round =>
    clear HST
    obtain ⟨left, hI⟩ := hrel
    obtain ⟨wo, rfl⟩ : ∃ wo, wo = wr := ⟨_, rfl⟩
    have HRG := hide hI.out.rng
    go_wp2_with (first
      | (at_next; refine nextU rfl _ rfl rfl HRG.out ?_ ?_)
      | fail)
    · intro hl0
      obtain ⟨l, ho, hu⟩ := hI.out.own
      have hge := hI.out.ge
      have hfew := any_few hu HDM.out
      have HU := hide hu
      have HB := hide hI.out.bel
      have HL0 := Lib.hid hl0
      have hown := ho
      clear hI HRG hl0
      rcases ho.2 with ⟨rfl, h0⟩ | ⟨g, cap, cur, rfl, hg, _⟩
      · obtain rfl : l = [] := List.eq_nil_of_length_eq_zero h0
        have HP := hide (show ListP w F most (.returned (.tuple #[.slice none 0 0, .nilIface])) wo from ⟨.inl ⟨by rw [HNE.out]; omega, _, rfl, by
          rw [← any_end HU.out HDM.out HL0.out (List.Perm.refl _) List.Pairwise.nil]
          exact ownU_nil _ _⟩, HB.out⟩)
        have HS := hide (sortUp_nil 0 wo)
        clear hown ho h0
        go_wp2_with fail
        refine (HS.out).mono ?_
        rintro e w7 ⟨rfl, rfl⟩
        go_wp2
        go_ret2
        rw [HFE.out]
        exact HP.out
      · have HS := hide (sortUp_any (r + 1) g l.length cap l wo hown rfl (by omega) hu.nd)
        clear hown ho
        go_wp2_with fail
        refine (HS.out).mono ?_
        rintro e w7 ⟨rfl, l', hs, hup⟩
        have HP := hide (show ListP w F most (.returned (.tuple #[.slice (some ⟨g, 0, none⟩) l.length cap, .nilIface])) w7 from ⟨.inl ⟨by rw [HNE.out]; omega, _, rfl, by
          rw [← any_end HU.out HDM.out HL0.out hs.perm hup]
          exact hs.own.mono (by omega)⟩, HB.out.trans (hs.fr.to_below HB.out.size (fun k hk e => by
            have e : k = g := e
            omega))⟩)
        clear hs hup HS
        go_wp2
        go_ret2
        rw [HFE.out]
        exact HP.out
    · intro s w1 hs64 hls hFs hr1 hg1 hsz1 hlt1 hen
      obtain ⟨l, ho, hu⟩ := hI.out.own
      obtain ⟨Al, cl, rfl⟩ := ho.len
      have HO1 := hide (show OwnU w1 (r + 1) (.slice Al l.length cl) l from World.ownsRow.kept ho hg1 (by
        cases e : (Value.slice Al l.length cl).ownBlock with
        | none => exact .inl rfl
        | some k => exact .inr (fun e2 => by have := (World.ownsRow.lt ho k e).1; injection e2 with e2; omega)))
      have HR1 := hide hr1
      have HB1 := hide (hI.out.bel.grown hg1 hI.out.bel.size (fun j hj => by cases hj; exact hI.out.ge.1))
      have hge := hI.out.ge
      have HU := hide (any_put hu hFs hls)
      have hfew := any_few hu HDM.out
      have HLT := Lib.hid hlt1
      clear hI HRG hr1 hg1 ho hu hlt1 hsz1
      have hal := (Below.refl w1.heap.size w1).alloc (Nat.le_refl _) (.cells #[.int .u64 (s : Int)] 22)
      have hag : w1.grownBy (w1.alloc (.cells #[.int .u64 (s : Int)] 22)) none := ⟨hal.os, hal.tape, hal.output, hal.size, fun i hi _ => hal.block i hi⟩
      have HA := hide hag
      have HBA := hide (HB1.out.grown hag HB1.out.size (fun j hj => by cases hj))
      have HOA := hide (show OwnU (w1.alloc (.cells #[.int .u64 (s : Int)] 22)) (r + 1) (.slice Al l.length cl) l from HO1.out.below hal)
      have HRA := hide (HR1.out.kept hag (by simp) (by simp))
      have hca : (w1.alloc (.cells #[.int .u64 (s : Int)] 22)).cell? ⟨w1.heap.size, 0, none⟩ = some (.int .u64 (s : Int)) := (Blk.new w1 22 #[.int .u64 (s : Int)]).cell 0
      have hbs : r + 1 ≤ (w1.alloc (.cells #[.int .u64 (s : Int)] 22)).heap.size := by
        have := HR1.out.ltr
        have := hal.size
        omega
      have hLA : (w1.alloc (.cells #[.int .u64 (s : Int)] 22)).rangeLeft gm r = w1.rangeLeft gm r := (HR1.out.same (hal.block _ (by have := HR1.out.ltr; omega)) (hal.block _ HR1.out.ltr)).2
      have HLA := Lib.hid hLA
      have HOL := hide HOA.out.lt'
      clear hal hag hLA
      go_wp2_with (at_builtin; refine appU _ rfl _ _ 38 rfl (r + 1) Tryd.underlying38 _ l rfl HOA.out w1.heap.size 1 s rfl hca (by omega) hbs ?_; intro v8 w8 ho8 hg8; have HO8 := hide ho8; have HG8 := hide hg8; clear ho8 hg8)
      have hne : ∀ k, (Value.slice Al l.length cl).ownBlock = some k → r + 1 ≤ k := HOL.out
      have h1 : some gm ≠ (Value.slice Al l.length cl).ownBlock := fun e => by have := hne _ e.symm; omega
      have h2 : some r ≠ (Value.slice Al l.length cl).ownBlock := fun e => by have := hne _ e.symm; omega
      have HN8 := hide (show LoI w gm r F (fun u => left u && !(u == s)) v8 w8 from ⟨HRA.out.kept HG8.out h1 h2, ⟨l ++ [s], HO8.out, HU.out⟩, HBA.out.grown HG8.out HBA.out.size (fun j hj => by have := hne j hj; omega), hge⟩)
      have HL8 := Lib.hid (show w8.rangeLeft gm r < wo.rangeLeft gm r from by
        have e := (HRA.out.same (HG8.out.block _ (by have := HRA.out.ltr; omega) h1) (HG8.out.block _ HRA.out.ltr h2)).2
        rw [e, HLA.out]
        exact HLT.out)
      go_roundw
      case rel => exact ⟨_, HN8⟩
      case measure => exact HL8.out
theorem fzList_any (x most : Int) (h : FsM w S B gn gu gt things A) (p : hasA A x = true) :
    Calls Tryd.prog 14 #[.pointer (some ⟨S, 0, none⟩), .int .i64 x, .int .i64 most] w (ListP w (fam A x) most) := fzList_v S B gn gu gt things A w x most h.toV p
end
end Go.Proofs.YtdlcldhnbhlikaaDoor
