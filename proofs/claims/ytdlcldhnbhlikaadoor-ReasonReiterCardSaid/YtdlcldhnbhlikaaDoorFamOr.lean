/-
  A store's walk, entered; what one has, what both have, what the other has not.
-/
import Derived.Test.YtdlcldhnbhlikaaDoorFamW
namespace Go.Proofs.YtdlcldhnbhlikaaDoor
open Go.RowKit Go.Maps

def c2N : Nat → Nat
  | 0 => 0
  | n + 1 => 2 * c2N n + 1
theorem c2N_mono {a b : Nat} (h : a ≤ b) : c2N a ≤ c2N b := by
  induction h with
  | refl => exact Nat.le_refl _
  | step _ ih => show _ ≤ 2 * c2N _ + 1; omega
/-- Sets taken one by one. -/
def opK (k : Bool → Bool → Bool) (e : Int → Int → Option Int) : OpZ := ⟨fun F G s => k (F s) (G s), e, c2N⟩
theorem c2_two {t t1 t2 : Int} (h0 : 0 ≤ t) (h1 : t < t1) (h2 : t < t2) : c2N (kT t1) + c2N (kT t2) + (if t < 3 then 1 else 0) ≤ c2N (kT t) := by
  by_cases h3 : t < 3
  · rw [if_pos h3]
    obtain ⟨j, hj⟩ : ∃ j, kT t = j + 1 := ⟨kT t - 1, by unfold kT; omega⟩
    have e1 := c2N_mono (show kT t1 ≤ j by unfold kT at *; omega)
    have e2 := c2N_mono (show kT t2 ≤ j by unfold kT at *; omega)
    rw [hj]
    show _ ≤ 2 * c2N j + 1
    omega
  · rw [if_neg h3, show kT t = 0 by unfold kT; omega, show kT t1 = 0 by unfold kT; omega, show kT t2 = 0 by unfold kT; omega]
    exact Nat.le_refl _
theorem qM_kids {t t1 : Int} (h0 : 0 ≤ t) (h6 : t < 6) (h1 : t < t1) : 4 * qM (kM t1) + 1 ≤ qM (kM t) := by
  obtain ⟨j, hj⟩ : ∃ j, kM t = j + 1 := ⟨kM t - 1, by unfold kM; omega⟩
  have e1 := qM_mono (show kM t1 ≤ j by unfold kM at *; omega)
  rw [hj]
  show _ ≤ 4 * qM j + 1
  omega
section
variable {A A1 A2 A3 : Ar} {things a b lo hi x : Int} {c1 c2 : Nat} {t1 t2 : Int} {v : Nat}
theorem two_join {k : Bool → Bool → Bool} (hs : SpZ A things) (h24 : v < 24) (ha : (v : Int) ≤ topA A a) (hb : (v : Int) ≤ topA A b) (pa : hasA A a = true) (pb : hasA A b = true)
    (T1 : StpZ A A1 things c1 t1 lo (fun s => k (fam A (atZ A a v false) s) (fam A (atZ A b v false) s))) (T2 : StpZ A1 A2 things c2 t2 hi (fun s => k (fam A1 (atZ A a v true) s) (fam A1 (atZ A b v true) s)))
    {c3 : Nat} (T3 : StpZ A2 A3 things c3 (v : Int) x (nodeZ A2 ⟨(v : Int), lo, hi⟩)) : StpZ A A3 things (c1 + c2 + c3) (v : Int) x (fun s => k (fam A a s) (fam A b s)) := by
  refine ⟨T3.sp, (T1.ext.trans T2.ext).trans T3.ext, ?_, T3.has, T3.top, fun s => ?_⟩
  · have := T1.few; have := T2.few; have := T3.few; omega
  · rw [T3.fam]
    refine nodeZ_two hs.wf h24 ha hb (g := k) (fun s => ?_) (fun s => ?_) s
    · rw [T1.sp.same T2.sp T2.ext T1.has, T1.fam]
    · rw [T2.fam, hs.same T1.sp T1.ext (atZ_has hs.wf pa true), hs.same T1.sp T1.ext (atZ_has hs.wf pb true)]
end
section
variable (K : Bx) (S B gn gu gt : Nat) (things : Int)
set_option maxRecDepth 100000 in
set_option maxHeartbeats 8000000 in
theorem mixK_any (k : Bool → Bool → Bool) (e : Int → Int → Option Int) (hf : K.fm = 54 ∨ K.fm = 32 ∨ K.fm = 59) (t : Int)
    (ih : AgC (opK k e) K S B gn gu gt things t) : MixC (opK k e) K S B gn gu gt things t := by
  intro a b A m w htop t0 tv he h
  obtain ⟨v, rfl⟩ : ∃ v : Nat, t = v := ⟨t.toNat, by omega⟩
  have h6 := h.wk.fs.t6
  have hsp := h.wk.fs.sp
  have hl := topZ_le A a b
  rw [htop] at hl
  have ha := hl.1
  have hb := hl.2
  have p0 := atZ_has hsp.wf (v := v) h.pa false
  have p1 := atZ_has hsp.wf (v := v) h.pa true
  have r0 := atZ_has hsp.wf (v := v) h.pb false
  have r1 := atZ_has hsp.wf (v := v) h.pb true
  have q0 : (v : Int) < topZ A (atZ A a v false) (atZ A b v false) := by
    have := atZ_top hsp.wf (show v < 24 by omega) ha false
    have := atZ_top hsp.wf (show v < 24 by omega) hb false
    unfold topZ min2; split <;> omega
  have q1 : (v : Int) < topZ A (atZ A a v true) (atZ A b v true) := by
    have := atZ_top hsp.wf (show v < 24 by omega) ha true
    have := atZ_top hsp.wf (show v < 24 by omega) hb true
    unfold topZ min2; split <;> omega
  have hc := c2_two t0 q0 q1
  have hq0 := qM_kids t0 (by omega) q0
  have hq1 := qM_kids t0 (by omega) q1
  have hlow : low3 A + c2N (kT v) ≤ 2000 := by have := h.low; rw [htop] at this; exact this
  have hmost := h.most
  rw [htop] at hmost
  have HI := hide h
  have h24 : v < 24 := by omega
  have HJ := Lib.hid (fun A1 A2 A3 lo hi x c1 c2 c3 t1 t2 T1 T2 T3 => @two_join A A1 A2 A3 things a b lo hi x c1 c2 t1 t2 v k hsp h24 ha hb h.pa h.pb T1 T2 c3 T3)
  have HR1 := hide (ih (atZ A a v false) (atZ A b v false) A m w q0 ⟨h.wk, p0, r0, (by show low3 A + c2N _ ≤ 2000; omega), by omega⟩)
  unfold WkP
  rw [htop]
  clear h htop he
  unfold againV
  rcases hf with hf | hf | hf
  all_goals
    rw [hf]
    first
      | go_enter Tryd.func54, Tryd.ntmps54
      | go_enter Tryd.func32, Tryd.ntmps32
      | go_enter Tryd.func59, Tryd.ntmps59
    go_wp2_with fail
    refine (HR1.out).mono ?_
    rintro e w1 ⟨A1, lo, m1, rfl, hw1, T1, hm1, hf1⟩
    have x1 := topZ_ext T1.ext p1 r1
    have hfew1 := T1.few
    have hfew1' : low3 A1 ≤ low3 A + c2N (kT (topZ A (atZ A a v false) (atZ A b v false))) := hfew1
    have HW1 := hide hw1
    have HT1 := hide T1
    have HF1 := hide hf1
    have HR2 := hide (ih (atZ A a v true) (atZ A b v true) A1 m1 w1 (by rw [x1]; exact q1) ⟨hw1, T1.ext.has p1, T1.ext.has r1, (by show low3 A1 + c2N _ ≤ 2000; rw [x1]; omega), by rw [x1]; omega⟩)
    clear hw1 T1 hf1 HR1 hfew1
    go_wp2_with fail
    refine (HR2.out).mono ?_
    rintro e w2 ⟨A2, hi, m2, rfl, hw2, T2, hm2, hf2⟩
    rw [x1] at hm2
    have hfew2 : low3 A2 ≤ low3 A1 + c2N (kT (topZ A1 (atZ A a v true) (atZ A b v true))) := T2.few
    rw [x1] at hfew2
    have htop2 := T2.top
    rw [x1] at htop2
    have HN := hide (fzNode_any S B gn gu gt things A2 w2 lo hi (v : Int) hw2.fs t0 tv (T2.ext.has HT1.out.has) (by rw [T2.ext.top HT1.out.has]; have := HT1.out.top; omega) T2.has (by omega) (by omega))
    have HW2 := hide hw2
    have HT2 := hide T2
    have HF2 := hide (HF1.out.trans hf2)
    have c6 := hw2.k2.cell 0
    clear hw2 T2 hf2 HR2 HW1 HF1 htop2
    go_wp2_with fail
    refine (HN.out).mono ?_
    rintro e w3 ⟨A3, x, rfl, hs3, T3, hf3⟩
    have HS3 := hide hs3
    have HT3 := hide T3
    have HF3 := hide hf3
    clear hs3 T3 hf3 HN c6
    go_wp2
    go_ret2
    have HX := HJ.out A1 A2 A3 lo hi x _ _ _ _ _ HT1.out HT2.out HT3.out
    refine ⟨A3, x, m2, rfl, HW2.out.arena HS3.out HT3.out.ext HF3.out, StpZ.mono HX ?_ (Int.le_refl _) (fun _ => rfl), by omega, HF2.out.trans (HF3.out.mono fun k _ hk => .inl hk)⟩
    show c2N (kT (topZ A (atZ A a v false) (atZ A b v false))) + c2N (kT (topZ A1 (atZ A a v true) (atZ A b v true))) + _ ≤ c2N (kT v)
    rw [x1]
    exact hc
/-- What a walk's closures must be. -/
structure MxOk (O : OpZ) (fe fm : FuncId) (S B gn gu gt : Nat) (things : Int) : Prop where
  ok : OpOk O
  ends : EndsC O fe
  en : EnF fm
  mix : ∀ K : Bx, K.fe = fe → K.fm = fm → ∀ t, AgC O K S B gn gu gt things t → MixC O K S B gn gu gt things t
end
theorem blk_at {w : World} {n : Nat} (hn : w.heap.size = n) (t : TypeId) (cs : Array Value) : Blk (w.alloc (.cells cs t)) n t cs := hn ▸ Blk.new w t cs
/-- A walk's boxes, as they are laid. -/
def walkK (n b2 : Nat) (fe fm : FuncId) : Bx := ⟨n + 1, n + 1 + 1 + 1 + 1, n, n + 1 + 1, n + 1 + 1 + 1 + 1 + 1, b2, n + 1 + 1 + 1, fe, fm⟩
def walkW (w : World) (S b2 : Nat) (fe fm : FuncId) : World :=
  (((((w.alloc (.cells #[.pointer (some ⟨S, 0, none⟩)] 23)).alloc (.cells #[.func (.func fe) #[] #[]] 65)).alloc
    (.cells #[.func (.func fm) #[] #[.pointer (some ⟨b2, 0, none⟩)]] 67)).alloc (.map #[] 0)).alloc
    (.cells #[.map (some (w.heap.size + 1 + 1 + 1))] 96)).alloc (.cells #[againV (walkK w.heap.size b2 fe fm)] 31)
theorem walk_start {O : OpZ} {w : World} {S B gn gu gt b2 : Nat} {things : Int} {A : Ar} (fe fm : FuncId) (h : FsM w S B gn gu gt things A) (h2 : Blk w b2 23 #[.pointer (some ⟨S, 0, none⟩)]) :
    WkI O (walkK w.heap.size b2 fe fm) S B gn gu gt things A 0 (walkW w S b2 fe fm) ∧ Below w.heap.size w (walkW w S b2 fe fm) := by
  unfold walkW
  generalize hn : w.heap.size = n
  have b1 := blk_at hn 23 #[.pointer (some ⟨S, 0, none⟩)]
  have l1 : (w.alloc (.cells #[.pointer (some ⟨S, 0, none⟩)] 23)).heap.size = n + 1 := by simp [hn]
  have d1 := (Below.refl w.heap.size w).alloc (Nat.le_refl _) (.cells #[.pointer (some ⟨S, 0, none⟩)] 23)
  generalize w.alloc (.cells #[.pointer (some ⟨S, 0, none⟩)] 23) = w1 at b1 l1 d1 ⊢
  have b2' := blk_at l1 65 #[.func (.func fe) #[] #[]]
  have b1 := b1.alloc (.cells #[.func (.func fe) #[] #[]] 65)
  have l2 : (w1.alloc (.cells #[.func (.func fe) #[] #[]] 65)).heap.size = n + 1 + 1 := by simp [l1]
  have d2 := d1.alloc d1.size (.cells #[.func (.func fe) #[] #[]] 65)
  generalize w1.alloc (.cells #[.func (.func fe) #[] #[]] 65) = w2 at b1 b2' l2 d2 ⊢
  have b3 := blk_at l2 67 #[.func (.func fm) #[] #[.pointer (some ⟨b2, 0, none⟩)]]
  have b1 := b1.alloc (.cells #[.func (.func fm) #[] #[.pointer (some ⟨b2, 0, none⟩)]] 67)
  have b2' := b2'.alloc (.cells #[.func (.func fm) #[] #[.pointer (some ⟨b2, 0, none⟩)]] 67)
  have l3 : (w2.alloc (.cells #[.func (.func fm) #[] #[.pointer (some ⟨b2, 0, none⟩)]] 67)).heap.size = n + 1 + 1 + 1 := by simp [l2]
  have d3 := d2.alloc d2.size (.cells #[.func (.func fm) #[] #[.pointer (some ⟨b2, 0, none⟩)]] 67)
  generalize w2.alloc (.cells #[.func (.func fm) #[] #[.pointer (some ⟨b2, 0, none⟩)]] 67) = w3 at b1 b2' b3 l3 d3 ⊢
  have m4 := mapV_made (kt := 68) (lit := keyPL) (ok := okP) w3
  rw [l3] at m4
  have b1 := b1.alloc (.map #[] 0)
  have b2' := b2'.alloc (.map #[] 0)
  have b3 := b3.alloc (.map #[] 0)
  have l4 : (w3.alloc (.map #[] 0)).heap.size = n + 1 + 1 + 1 + 1 := by simp [l3]
  have d4 := d3.alloc d3.size (.map #[] 0)
  generalize w3.alloc (.map #[] 0) = w4 at b1 b2' b3 m4 l4 d4 ⊢
  have b5 := blk_at l4 96 #[.map (some (n + 1 + 1 + 1))]
  have b1 := b1.alloc (.cells #[.map (some (n + 1 + 1 + 1))] 96)
  have b2' := b2'.alloc (.cells #[.map (some (n + 1 + 1 + 1))] 96)
  have b3 := b3.alloc (.cells #[.map (some (n + 1 + 1 + 1))] 96)
  have m4 := m4.below ((Below.refl w4.heap.size w4).alloc (Nat.le_refl _) (.cells #[.map (some (n + 1 + 1 + 1))] 96)) m4.lt
  have l5 : (w4.alloc (.cells #[.map (some (n + 1 + 1 + 1))] 96)).heap.size = n + 1 + 1 + 1 + 1 + 1 := by simp [l4]
  have d5 := d4.alloc d4.size (.cells #[.map (some (n + 1 + 1 + 1))] 96)
  generalize w4.alloc (.cells #[.map (some (n + 1 + 1 + 1))] 96) = w5 at b1 b2' b3 b5 m4 l5 d5 ⊢
  have b6 := blk_at l5 31 #[againV (walkK n b2 fe fm)]
  have d6 := d5.alloc d5.size (.cells #[againV (walkK n b2 fe fm)] 31)
  have dd := (Below.refl w5.heap.size w5).alloc (Nat.le_refl _) (.cells #[againV (walkK n b2 fe fm)] 31)
  exact ⟨⟨h.below d6, b2'.below dd b2'.lt, b5.below dd b5.lt, b1.below dd b1.lt, b3.below dd b3.lt, b6, h2.below d6 h2.lt, _, m4.below dd m4.lt, fun a b x e => by cases e⟩, hn ▸ d6⟩
theorem ZP.from_ {w w1 w' : World} {S B gn gu gt c : Nat} {things t : Int} {A : Ar} {F : Nat → Bool} {e : Ending} (hb : Below w.heap.size w w1) (h : ZP w1 S B gn gu gt things A c t F e w') : ZP w S B gn gu gt things A c t F e w' := by
  obtain ⟨A', x, h1, h2, h3, h4⟩ := h
  exact ⟨A', x, h1, h2, h3, (Fr.of_below hb (Nat.le_refl _)).trans h4⟩
theorem qM_le {A : Ar} (hw : WfA A) (a b : Int) : 0 + qM (kM (topZ A a b)) ≤ 1000000 := by
  have h1 := hw.topR a
  have h2 := hw.topR b
  have h3 : kM (topZ A a b) ≤ 7 := by unfold kM topZ min2; split <;> omega
  have h4 := qM_mono h3
  have h5 : qM 7 ≤ 1000000 := by decide
  omega
section
variable (S B gn gu gt : Nat) (things : Int) (A : Ar) (w : World)
set_option maxRecDepth 100000 in
set_option maxHeartbeats 4000000 in
theorem fzWalk_any (O : OpZ) (fe fm : FuncId) (a b : Int) (b2 : Nat) (hM : MxOk O fe fm S B gn gu gt things) (h : FsM w S B gn gu gt things A) (hb2 : Blk w b2 23 #[.pointer (some ⟨S, 0, none⟩)]) (pa : hasA A a = true) (pb : hasA A b = true) (hl : low3 A + O.c (kT (topZ A a b)) ≤ 2000) :
    Calls Tryd.prog 30 #[.pointer (some ⟨S, 0, none⟩), .int .i64 a, .int .i64 b, .func (.func fe) #[] #[], .func (.func fm) #[] #[.pointer (some ⟨b2, 0, none⟩)]] w
      (ZP w S B gn gu gt things A (O.c (kT (topZ A a b))) (topZ A a b) (O.g (fam A a) (fam A b))) := by
  have hmm := @run_makeMap Tryd.prog
  have hmf : ∀ (fn : Fn) (first cap : Array Value) (w : World), (Instr.makeFunc fn first cap).run Tryd.prog w = .ok (.func fn first cap) w := by intros; rfl
  obtain ⟨hw, hd⟩ := walk_start (O := O) fe fm h hb2
  have HC := hide (again_any O (walkK w.heap.size b2 fe fm) S B gn gu gt things A 0 _ hM.ok hM.ends ⟨hM.en, hM.mix _ rfl rfl⟩ a b ⟨hw, pa, pb, hl, qM_le h.sp.wf a b⟩)
  have HD := hide hd
  clear h hb2 hM hw hd
  go_enter Tryd.func30, Tryd.ntmps30
  go_wp2_with fail
  refine (HC.out).mono ?_
  rintro e w7 ⟨A', x, m', rfl, hw, T, _, hf⟩
  have HW := hide hw
  have HT := hide T
  have HF := hide hf
  clear hw T hf HC
  go_wp2
  go_ret2
  refine ⟨A', x, rfl, HW.out.fs, HT.out, (Fr.of_below (S := arB B gn gu gt) HD.out (Nat.le_refl _)).and_ HF.out fun i hi hk => ?_⟩
  rcases hk with hk | hk
  · exact hk
  · exact absurd hi (by rw [hk]; show ¬ w.heap.size + 1 + 1 + 1 < _; omega)
end
/-- What the steps know at once. -/
def eOr (a b : Int) : Option Int := if a = 0 then some b else if a = b then some b else if b = 0 then some a else none
def eAnd (a b : Int) : Option Int := if a = 0 then some 0 else if b = 0 then some 0 else if a = b then some a else none
def eLess (a b : Int) : Option Int := if a = 0 then some 0 else if a = b then some 0 else if b = 0 then some a else none
def opOr : OpZ := opK (fun x y => x || y) eOr
def opAnd : OpZ := opK (fun x y => x && y) eAnd
def opLess : OpZ := opK (fun x y => x && !y) eLess
theorem top_zero (A : Ar) : topA A 0 = 24 := top_none (got_two (by omega))
theorem top_one (A : Ar) : topA A 1 = 24 := top_none (got_two (by omega))
section
variable {A : Ar} {things a b h : Int}
theorem topZ_24 (hw : WfA A) (a b : Int) : topZ A a b ≤ topA A 0 := by
  have := (topZ_le A a b).1
  have := (hw.topR a).2
  rw [top_zero]; omega
theorem ends_none (ha : hasA A a = true) (hb : hasA A b = true) (h : ¬ (gotA A a ≠ none ∨ gotA A b ≠ none)) : (a = 0 ∨ a = 1) ∧ (b = 0 ∨ b = 1) := by
  have h1 : gotA A a = none := Decidable.byContradiction fun e => h (.inl e)
  have h2 : gotA A b = none := Decidable.byContradiction fun e => h (.inr e)
  exact ⟨end_two ha h1, end_two hb h2⟩
end
theorem okOr : OpOk opOr := by
  refine ⟨fun {A things a b h} hs pa pb he => ?_, fun {A a b} pa pb he => Decidable.byContradiction fun hn => ?_, c2N_mono⟩
  · have hl := topZ_le A a b
    change eOr a b = some h at he
    show _ ∧ _ ∧ ∀ s, fam A h s = (fam A a s || fam A b s)
    unfold eOr at he
    split at he
    · rename_i e; subst e; cases he; exact ⟨pb, hl.2, fun s => by rw [fam_zero]; rfl⟩
    · split at he
      · rename_i e; subst e; cases he; exact ⟨pb, hl.2, fun s => by cases fam A a s <;> rfl⟩
      · split at he
        · rename_i e; subst e; cases he; exact ⟨pa, hl.1, fun s => by rw [fam_zero]; cases fam A a s <;> rfl⟩
        · cases he
  · obtain ⟨h1 | h1, h2 | h2⟩ := ends_none pa pb hn <;> subst h1 <;> subst h2 <;> cases he
theorem okAnd : OpOk opAnd := by
  refine ⟨fun {A things a b h} hs pa pb he => ?_, fun {A a b} pa pb he => Decidable.byContradiction fun hn => ?_, c2N_mono⟩
  · have hl := topZ_le A a b
    have h24 := topZ_24 hs.wf a b
    change eAnd a b = some h at he
    show _ ∧ _ ∧ ∀ s, fam A h s = (fam A a s && fam A b s)
    unfold eAnd at he
    split at he
    · rename_i e; subst e; cases he; exact ⟨has_ends.1, h24, fun s => by rw [fam_zero]; rfl⟩
    · split at he
      · rename_i e; subst e; cases he; exact ⟨has_ends.1, h24, fun s => by rw [fam_zero]; cases fam A a s <;> rfl⟩
      · split at he
        · rename_i e; subst e; cases he; exact ⟨pa, hl.1, fun s => by cases fam A a s <;> rfl⟩
        · cases he
  · obtain ⟨h1 | h1, h2 | h2⟩ := ends_none pa pb hn <;> subst h1 <;> subst h2 <;> cases he
theorem okLess : OpOk opLess := by
  refine ⟨fun {A things a b h} hs pa pb he => ?_, fun {A a b} pa pb he => Decidable.byContradiction fun hn => ?_, c2N_mono⟩
  · have hl := topZ_le A a b
    have h24 := topZ_24 hs.wf a b
    change eLess a b = some h at he
    show _ ∧ _ ∧ ∀ s, fam A h s = (fam A a s && !fam A b s)
    unfold eLess at he
    split at he
    · rename_i e; subst e; cases he; exact ⟨has_ends.1, h24, fun s => by rw [fam_zero]; rfl⟩
    · split at he
      · rename_i e; subst e; cases he; exact ⟨has_ends.1, h24, fun s => by rw [fam_zero]; cases fam A a s <;> rfl⟩
      · split at he
        · rename_i e; subst e; cases he; exact ⟨pa, hl.1, fun s => by rw [fam_zero]; cases fam A a s <;> rfl⟩
        · cases he
  · obtain ⟨h1 | h1, h2 | h2⟩ := ends_none pa pb hn <;> subst h1 <;> subst h2 <;> cases he
set_option maxRecDepth 100000 in
theorem endsOr : EndsC opOr 53 := by
  refine ⟨fun args w => enters_of Tryd.func53 (by kernel_rfl) rfl args w, fun a b w => ?_⟩
  show Calls _ _ _ _ (fun e w' => e = .returned (.tuple #[.int .i64 ((eOr a b).getD 0), .bool (eOr a b).isSome]) ∧ w = w')
  by_cases h0 : a = 0
  · have hE : eOr a b = some b := by unfold eOr; rw [if_pos h0]
    have f0 : (a == 0) = true := beq_iff_eq.2 h0
    rw [hE]
    simp only [Option.getD_some, Option.isSome_some]
    clear hE h0
    go_enter Tryd.func53, Tryd.ntmps53
    go_wp2
    go_ret2
    exact ⟨rfl, rfl⟩
  · have f0 : (a == 0) = false := beq_eq_false_iff_ne.2 h0
    by_cases h1 : a = b
    · have hE : eOr a b = some b := by unfold eOr; rw [if_neg h0, if_pos h1]
      have f1 : (a == b) = true := beq_iff_eq.2 h1
      rw [hE]
      simp only [Option.getD_some, Option.isSome_some]
      clear hE h1
      go_enter Tryd.func53, Tryd.ntmps53
      go_wp2
      go_ret2
      exact ⟨rfl, rfl⟩
    · have f1 : (a == b) = false := beq_eq_false_iff_ne.2 h1
      by_cases h2 : b = 0
      · have hE : eOr a b = some a := by unfold eOr; rw [if_neg h0, if_neg h1, if_pos h2]
        have f2 : (b == 0) = true := beq_iff_eq.2 h2
        rw [hE]
        simp only [Option.getD_some, Option.isSome_some]
        clear hE h2
        go_enter Tryd.func53, Tryd.ntmps53
        go_wp2
        go_ret2
        exact ⟨rfl, rfl⟩
      · have f2 : (b == 0) = false := beq_eq_false_iff_ne.2 h2
        have hE : eOr a b = none := by unfold eOr; rw [if_neg h0, if_neg h1, if_neg h2]
        rw [hE]
        simp only [Option.getD_none, Option.isSome_none]
        clear hE h0 h1 h2
        go_enter Tryd.func53, Tryd.ntmps53
        go_wp2
        go_ret2
        exact ⟨rfl, rfl⟩
set_option maxRecDepth 100000 in
theorem endsAnd : EndsC opAnd 31 := by
  refine ⟨fun args w => enters_of Tryd.func31 (by kernel_rfl) rfl args w, fun a b w => ?_⟩
  show Calls _ _ _ _ (fun e w' => e = .returned (.tuple #[.int .i64 ((eAnd a b).getD 0), .bool (eAnd a b).isSome]) ∧ w = w')
  by_cases h0 : a = 0
  · have hE : eAnd a b = some 0 := by unfold eAnd; rw [if_pos h0]
    have f0 : (a == 0) = true := beq_iff_eq.2 h0
    rw [hE]
    simp only [Option.getD_some, Option.isSome_some]
    clear hE h0
    go_enter Tryd.func31, Tryd.ntmps31
    go_wp2
    go_ret2
    exact ⟨rfl, rfl⟩
  · have f0 : (a == 0) = false := beq_eq_false_iff_ne.2 h0
    by_cases h1 : b = 0
    · have hE : eAnd a b = some 0 := by unfold eAnd; rw [if_neg h0, if_pos h1]
      have f1 : (b == 0) = true := beq_iff_eq.2 h1
      rw [hE]
      simp only [Option.getD_some, Option.isSome_some]
      clear hE h1
      go_enter Tryd.func31, Tryd.ntmps31
      go_wp2
      go_ret2
      exact ⟨rfl, rfl⟩
    · have f1 : (b == 0) = false := beq_eq_false_iff_ne.2 h1
      by_cases h2 : a = b
      · have hE : eAnd a b = some a := by unfold eAnd; rw [if_neg h0, if_neg h1, if_pos h2]
        have f2 : (a == b) = true := beq_iff_eq.2 h2
        rw [hE]
        simp only [Option.getD_some, Option.isSome_some]
        clear hE h2
        go_enter Tryd.func31, Tryd.ntmps31
        go_wp2
        go_ret2
        exact ⟨rfl, rfl⟩
      · have f2 : (a == b) = false := beq_eq_false_iff_ne.2 h2
        have hE : eAnd a b = none := by unfold eAnd; rw [if_neg h0, if_neg h1, if_neg h2]
        rw [hE]
        simp only [Option.getD_none, Option.isSome_none]
        clear hE h0 h1 h2
        go_enter Tryd.func31, Tryd.ntmps31
        go_wp2
        go_ret2
        exact ⟨rfl, rfl⟩
set_option maxRecDepth 100000 in
theorem endsLess : EndsC opLess 58 := by
  refine ⟨fun args w => enters_of Tryd.func58 (by kernel_rfl) rfl args w, fun a b w => ?_⟩
  show Calls _ _ _ _ (fun e w' => e = .returned (.tuple #[.int .i64 ((eLess a b).getD 0), .bool (eLess a b).isSome]) ∧ w = w')
  by_cases h0 : a = 0
  · have hE : eLess a b = some 0 := by unfold eLess; rw [if_pos h0]
    have f0 : (a == 0) = true := beq_iff_eq.2 h0
    rw [hE]
    simp only [Option.getD_some, Option.isSome_some]
    clear hE h0
    go_enter Tryd.func58, Tryd.ntmps58
    go_wp2
    go_ret2
    exact ⟨rfl, rfl⟩
  · have f0 : (a == 0) = false := beq_eq_false_iff_ne.2 h0
    by_cases h1 : a = b
    · have hE : eLess a b = some 0 := by unfold eLess; rw [if_neg h0, if_pos h1]
      have f1 : (a == b) = true := beq_iff_eq.2 h1
      rw [hE]
      simp only [Option.getD_some, Option.isSome_some]
      clear hE h1
      go_enter Tryd.func58, Tryd.ntmps58
      go_wp2
      go_ret2
      exact ⟨rfl, rfl⟩
    · have f1 : (a == b) = false := beq_eq_false_iff_ne.2 h1
      by_cases h2 : b = 0
      · have hE : eLess a b = some a := by unfold eLess; rw [if_neg h0, if_neg h1, if_pos h2]
        have f2 : (b == 0) = true := beq_iff_eq.2 h2
        rw [hE]
        simp only [Option.getD_some, Option.isSome_some]
        clear hE h2
        go_enter Tryd.func58, Tryd.ntmps58
        go_wp2
        go_ret2
        exact ⟨rfl, rfl⟩
      · have f2 : (b == 0) = false := beq_eq_false_iff_ne.2 h2
        have hE : eLess a b = none := by unfold eLess; rw [if_neg h0, if_neg h1, if_neg h2]
        rw [hE]
        simp only [Option.getD_none, Option.isSome_none]
        clear hE h0 h1 h2
        go_enter Tryd.func58, Tryd.ntmps58
        go_wp2
        go_ret2
        exact ⟨rfl, rfl⟩
section
variable (S B gn gu gt : Nat) (things : Int) (A : Ar) (w : World)
theorem mxOr : MxOk opOr 53 54 S B gn gu gt things :=
  ⟨okOr, endsOr, fun args w => enters_of Tryd.func54 (by kernel_rfl) rfl args w, fun K _ hf t ih => mixK_any K S B gn gu gt things _ _ (.inl hf) t ih⟩
theorem mxAnd : MxOk opAnd 31 32 S B gn gu gt things :=
  ⟨okAnd, endsAnd, fun args w => enters_of Tryd.func32 (by kernel_rfl) rfl args w, fun K _ hf t ih => mixK_any K S B gn gu gt things _ _ (.inr (.inl hf)) t ih⟩
theorem mxLess : MxOk opLess 58 59 S B gn gu gt things :=
  ⟨okLess, endsLess, fun args w => enters_of Tryd.func59 (by kernel_rfl) rfl args w, fun K _ hf t ih => mixK_any K S B gn gu gt things _ _ (.inr (.inr hf)) t ih⟩
/-- What a step of two families answers. -/
def OpZP (O : OpZ) (w : World) (S B gn gu gt : Nat) (things : Int) (A : Ar) (a b : Int) (e : Ending) (w' : World) : Prop := ZP w S B gn gu gt things A (O.c (kT (topZ A a b))) (topZ A a b) (O.g (fam A a) (fam A b)) e w'
set_option maxRecDepth 100000 in
set_option maxHeartbeats 2000000 in
theorem fzOr_in (a b : Int) (h : FsM w S B gn gu gt things A) (pa : hasA A a = true) (pb : hasA A b = true) (hl : low3 A + c2N (kT (topZ A a b)) ≤ 2000) :
    Calls Tryd.prog 29 #[.pointer (some ⟨S, 0, none⟩), .int .i64 a, .int .i64 b] w (OpZP opOr w S B gn gu gt things A a b) := by
  have hmf : ∀ (fn : Fn) (first cap : Array Value) (w : World), (Instr.makeFunc fn first cap).run Tryd.prog w = .ok (.func fn first cap) w := by intros; rfl
  have hal := (Below.refl w.heap.size w).alloc (Nat.le_refl _) (.cells #[.pointer (some ⟨S, 0, none⟩)] 23)
  have HC := hide (fzWalk_any S B gn gu gt things A _ opOr 53 54 a b w.heap.size (mxOr S B gn gu gt things) (h.below hal) (Blk.new w _ _) pa pb hl)
  have HD := hide hal
  clear h hal
  go_enter Tryd.func29, Tryd.ntmps29
  go_wp2_with fail
  refine (HC.out).mono ?_
  rintro e w7 hq
  have HQ := hide (show OpZP opOr w S B gn gu gt things A a b e w7 from ZP.from_ HD.out hq)
  obtain ⟨A', x, rfl, -⟩ := hq
  go_wp2
  go_ret2
  exact HQ.out
end
end Go.Proofs.YtdlcldhnbhlikaaDoor
