/-
  A space's set, and Set. A space's Ite, Not, And, Or, Xor, Some and Each.
-/
import Derived.Test.YtdlcldhnbhlikaaGreatDoorBddIte
import Derived.Laws.EntriesVeiled
namespace Go.Proofs.YtdlcldhnbhlikaaGreatDoor
open Go.RowKit Go.Maps

abbrev DoneM (w : World) (gd : Nat) (f : Int → Option Int) (md : Nat) : Prop := MapV 3 keyL I64 w gd f md
def setB (B gn gu gt gc gd k : Nat) : Prop := spB B gn gu gt gc k ∨ k = gd
/-- What set is asked of. -/
structure SetI (w : World) (S B gn gu gt gc m : Nat) (vars : Int) (A : Ar) (gd md : Nat) (x : Int) (is : Bool) (h : Int) : Prop where
  sp : SpM w S B gn gu gt gc vars A m
  p : hasA A h = true
  x0 : 0 ≤ x
  xv : x < vars
  done : ∃ f, DoneM w gd f md ∧ DoneOk A x is f
  low : low3 A + wt (topA A h) ≤ 2000
  most : md + wc (topA A h) ≤ 1000000
  gs : ¬ spB B gn gu gt gc gd
  gS : gd ≠ S
def SetP (w : World) (S B gn gu gt gc m : Nat) (vars : Int) (A : Ar) (gd md : Nat) (x : Int) (is : Bool) (h : Int) (e : Ending) (w' : World) : Prop :=
  ∃ A' y m' md', e = .returned (.tuple #[.int .i64 y, .nilIface]) ∧ SpM w' S B gn gu gt gc vars A' m' ∧ StpA A A' vars (wt (topA A h)) (topA A h) y (setF A h x is) ∧ m' ≤ m ∧
    (∃ f, DoneM w' gd f md' ∧ DoneOk A' x is f) ∧ md' ≤ md + wc (topA A h) ∧ Fr (setB B gn gu gt gc gd) w w'
section
variable {w w' : World} {S B gn gu gt gc m gd md : Nat} {vars : Int} {A A' : Ar} {x h : Int} {is : Bool}
theorem SetP.here (hI : SetI w S B gn gu gt gc m vars A gd md x is h) (hb : Below w.heap.size w w') {y : Int} (p : hasA A y = true) (ht : topA A h ≤ topA A y) (hF : ∀ v, den A y v = setF A h x is v) :
    SetP w S B gn gu gt gc m vars A gd md x is h (.returned (.tuple #[.int .i64 y, .nilIface])) w' := by
  obtain ⟨f, h1, h2⟩ := hI.done
  exact ⟨A, y, m, md, rfl, hI.sp.below hb, .refl hI.sp.sp p ht _ hF, Nat.le_refl _, ⟨f, h1.below hb h1.lt, h2⟩, Nat.le_add_right _ _, .of_below hb (Nat.le_refl _)⟩
theorem DoneM.look {f : Int → Option Int} (hd : DoneM w gd f md) {k : Int} (hk : I64 k) :
    (Instr.lookup 93 (.map (some gd)) (.int .i64 k) true).run Tryz.prog w = .ok (.tuple #[.int .i64 ((f k).getD 0), .bool (f k).isSome]) w :=
  MapV.lookRun keyS_int Tryz.underlying93 hd k hk
end
section
variable (S B gn gu gt gc m : Nat) (vars : Int) (A : Ar) (w : World) (gd md : Nat) (x : Int) (is : Bool) (h : Int)
set_option maxHeartbeats 1000000 in
/-- An end, or a node behind the variable. -/
theorem set_far (hI : SetI w S B gn gu gt gc m vars A gd md x is h) (hlt : x < topA A h) :
    Calls Tryz.prog 119 #[.pointer (some ⟨S, 0, none⟩), .int .i64 h, .int .i64 x, .bool is, .map (some gd)] w (SetP w S B gn gu gt gc m vars A gd md x is h) := by
  have HP := hide (fun (w' : World) (hb : Below w.heap.size w w') => SetP.here hI hb hI.p (Int.le_refl _) (set_here hI.sp.sp hlt))
  have s0 := hI.sp.kS.cell 0
  cases hg : gotA A h with
  | none =>
    have HGT := hide (arGet_none B gn gu gt A h w hI.sp.ar (hI.sp.sp.i64 hI.p) hg)
    clear hI hg
    go_enter Tryz.func119, Tryz.ntmps119
    go_wp2_with fail
    refine (HGT.out).mono ?_
    rintro e w1 ⟨rfl, hb⟩
    go_wp2
    go_ret2
    exact HP.out _ (hb.alloc hb.size _)
  | some d =>
    have HGT := hide (arGet_some B gn gu gt A h d w hI.sp.ar (hI.sp.sp.i64 hI.p) hg)
    have ht := top_some hg
    rw [ht] at hlt
    have hd : decide (x < d.var) = true := decide_eq_true hlt
    clear hI hg ht
    go_enter Tryz.func119, Tryz.ntmps119
    go_wp2_with fail
    refine (HGT.out).mono ?_
    rintro e w1 ⟨rfl, hb⟩
    go_wp2
    go_ret2
    exact HP.out _ (hb.alloc hb.size _)
set_option maxHeartbeats 1000000 in
/-- A node of the variable. -/
theorem set_at (d : Nd) (hI : SetI w S B gn gu gt gc m vars A gd md x is h) (hg : gotA A h = some d) (hx : d.var = x) :
    Calls Tryz.prog 119 #[.pointer (some ⟨S, 0, none⟩), .int .i64 h, .int .i64 x, .bool is, .map (some gd)] w (SetP w S B gn gu gt gc m vars A gd md x is h) := by
  have HP := hide (fun (w' : World) (hb : Below w.heap.size w w') => SetP.here hI hb (hI.sp.sp.wf.kid hg is).2 (by rw [top_some hg]; exact Int.le_of_lt (hI.sp.sp.wf.kid hg is).1) (set_kid hI.sp.sp hg hx))
  have s0 := hI.sp.kS.cell 0
  have HGT := hide (arGet_some B gn gu gt A h d w hI.sp.ar (hI.sp.sp.i64 hI.p) hg)
  have hd : decide (x < d.var) = false := decide_eq_false (by omega)
  have he : (d.var == x) = true := beq_iff_eq.2 hx
  clear hI hg hx
  cases is
  all_goals
    go_enter Tryz.func119, Tryz.ntmps119
    go_wp2_with fail
    refine (HGT.out).mono ?_
    rintro e w1 ⟨rfl, hb⟩
    go_wp2
    go_ret2
    exact HP.out _ (hb.alloc hb.size _)
set_option maxHeartbeats 2000000 in
/-- What set knows already. -/
theorem set_known (d : Nd) (y : Int) (hI : SetI w S B gn gu gt gc m vars A gd md x is h) (hg : gotA A h = some d) (hx : d.var < x) (f : Int → Option Int) (hm : DoneM w gd f md) (ho : DoneOk A x is f) (hf : f h = some y) :
    Calls Tryz.prog 119 #[.pointer (some ⟨S, 0, none⟩), .int .i64 h, .int .i64 x, .bool is, .map (some gd)] w (SetP w S B gn gu gt gc m vars A gd md x is h) := by
  obtain ⟨_, p2, p3, p4⟩ := ho h y hf
  have HP := hide (fun (w' : World) (hb : Below w.heap.size w w') => SetP.here hI hb p2 p3 p4)
  have s0 := hI.sp.kS.cell 0
  have HGT := hide (arGet_some B gn gu gt A h d w hI.sp.ar (hI.sp.sp.i64 hI.p) hg)
  have hd : decide (x < d.var) = false := decide_eq_false (by omega)
  have he : (d.var == x) = false := beq_eq_false_iff_ne.2 (by omega)
  have hlk := fun (w' : World) (hb : Below w.heap.size w w') => DoneM.look (hm.below hb hm.lt) (hI.sp.sp.i64 hI.p)
  simp only [hf, Option.getD_some, Option.isSome_some] at hlk
  clear hI hg hm ho hf p2 p3 p4 hx
  go_enter Tryz.func119, Tryz.ntmps119
  go_wp2_with fail
  refine (HGT.out).mono ?_
  rintro e w1 ⟨rfl, hb⟩
  have hlk2 := hlk _ (hb.alloc hb.size (.cells #[.int .i64 d.var, .int .i64 d.low, .int .i64 d.high] 101))
  clear hlk
  go_wp2
  go_ret2
  exact HP.out _ (hb.alloc hb.size _)
/-- set of smaller functions. -/
def SetC (S B gn gu gt gc : Nat) (vars : Int) (gd : Nat) (x : Int) (is : Bool) (t : Int) : Prop := ∀ (h : Int) (A : Ar) (m md : Nat) (w : World), t < topA A h → SetI w S B gn gu gt gc m vars A gd md x is h →
  Calls Tryz.prog 119 #[.pointer (some ⟨S, 0, none⟩), .int .i64 h, .int .i64 x, .bool is, .map (some gd)] w (SetP w S B gn gu gt gc m vars A gd md x is h)
theorem DoneM.node {w w' : World} {B gn gu gt gc gd md : Nat} {vars : Int} {A A' : Ar} {x : Int} {is : Bool} (hd : ∃ f, DoneM w gd f md ∧ DoneOk A x is f) (hf : Fr (spB B gn gu gt gc) w w') (hgs : ¬ spB B gn gu gt gc gd) (h : SpA A vars) (h' : SpA A' vars) (hx : ExtA A A') :
    ∃ f, DoneM w' gd f md ∧ DoneOk A' x is f := by
  obtain ⟨f, h1, h2⟩ := hd
  exact ⟨f, h1.fr hf hgs, h2.ext h h' hx⟩
set_option maxRecDepth 100000 in
set_option maxHeartbeats 8000000 in
/-- A step of set. -/
theorem set_step (d : Nd) (hI : SetI w S B gn gu gt gc m vars A gd md x is h) (hg : gotA A h = some d) (hx : d.var < x) (f : Int → Option Int) (hm : DoneM w gd f md) (hf : f h = none) (ih : SetC S B gn gu gt gc vars gd x is (topA A h)) :
    Calls Tryz.prog 119 #[.pointer (some ⟨S, 0, none⟩), .int .i64 h, .int .i64 x, .bool is, .map (some gd)] w (SetP w S B gn gu gt gc m vars A gd md x is h) := by
  have ht := top_some hg
  have hL := hI.sp.sp.wf.low _ _ hg
  have hH := hI.sp.sp.wf.high _ _ hg
  have hV := hI.sp.sp.wf.var _ _ hg
  have hv6 := hI.sp.v6
  have JN := Lib.hid (fun A1 A2 A3 lo hi y => @set_join A A1 A2 A3 vars hI.sp.sp h x lo hi y is d hg hx)
  have W2 := Lib.hid (And.intro (wt_two hV.1 hL.2 hH.2) (wc_two hV.1 (by have := (hI.sp.sp.lt hg).2; omega) hL.2 hH.2))
  have HI := hide hI
  have s0 := hI.sp.kS.cell 0
  have hkS := hI.sp.kS.lt
  have HGT := hide (arGet_some B gn gu gt A h d w hI.sp.ar (hI.sp.sp.i64 hI.p) hg)
  have hd : decide (x < d.var) = false := decide_eq_false (by omega)
  have he : (d.var == x) = false := beq_eq_false_iff_ne.2 (by omega)
  have hlk := fun (w' : World) (hb : Below w.heap.size w w') => DoneM.look (hm.below hb hm.lt) (hI.sp.sp.i64 hI.p)
  simp only [hf, Option.getD_none, Option.isSome_none] at hlk
  have hspb := Lib.hid (show ∀ k, setB B gn gu gt gc gd k → k < w.heap.size from fun k hk => hk.elim (fun hk => hI.sp.lt hk) (fun e => by rw [e]; exact hm.lt))
  have hIP := hI.p
  clear hI hm hf
  go_enter Tryz.func119, Tryz.ntmps119
  go_wp2_with fail
  refine (HGT.out).mono ?_
  rintro e w1 ⟨rfl, hb⟩
  have hlk2 := hlk _ (hb.alloc hb.size (.cells #[.int .i64 d.var, .int .i64 d.low, .int .i64 d.high] 101))
  have HB := hide (hb.alloc hb.size (.cells #[.int .i64 d.var, .int .i64 d.low, .int .i64 d.high] 101))
  have HK := hide (Blk.new w1 101 #[.int .i64 d.var, .int .i64 d.low, .int .i64 d.high])
  have hgS : ∀ k, setB B gn gu gt gc gd k → k ≠ w1.heap.size := fun k hk e => by have := hspb.out k hk; have := hb.size; omega
  have HS := hide (HI.out.sp.below HB.out)
  have HD := hide (show ∃ f, DoneM _ gd f md ∧ DoneOk A x is f from by
    obtain ⟨f, h1, h2⟩ := HI.out.done
    exact ⟨f, h1.below HB.out h1.lt, h2⟩)
  clear hlk hb
  go_wp2_with fail
  generalize (w1.alloc (.cells #[.int .i64 d.var, .int .i64 d.low, .int .i64 d.high] 101)) = w2 at HB HK HS HD hlk2 ⊢
  generalize w1.heap.size = g at HK hgS ⊢
  clear hlk2 s0 HGT
  have hlow := HI.out.low
  have hmost := HI.out.most
  have w21 := W2.out.1
  have w22 := W2.out.2
  rw [ht] at hlow hmost
  have HR1 := hide (ih d.low A m md w2 (by rw [ht]; exact hL.2) ⟨HS.out, hL.1, HI.out.x0, HI.out.xv, HD.out, by omega, by omega, HI.out.gs, HI.out.gS⟩)
  refine (HR1.out).mono ?_
  rintro e w3 ⟨A1, lo, m1, md1, rfl, HS3', T1, hm1, hd3', hmd1, hf3⟩
  have HS3 := hide HS3'
  have HT1 := hide T1
  have HD3 := hide hd3'
  have HF3 := hide ((Fr.of_below (S := setB B gn gu gt gc gd) HB.out (Nat.le_refl _)).trans hf3)
  have HK3 := hide (HK.out.fr hf3 (fun hk => hgS _ hk rfl))
  have e1 := T1.ext
  have hfew1 := T1.few
  clear HS3' T1 hf3 hd3' HS HK HB HD HR1
  have x4 := e1.top hH.1
  have k2 := HK3.out.cell 2
  have HR2 := hide (ih d.high A1 m1 md1 w3 (by rw [ht, x4]; exact hH.2) ⟨HS3.out, e1.has hH.1, HI.out.x0, HI.out.xv, HD3.out, by rw [x4]; omega, by rw [x4]; omega, HI.out.gs, HI.out.gS⟩)
  go_wp2_with fail
  refine (HR2.out).mono ?_
  rintro e w4 ⟨A2, hi, m2, md2, rfl, HS4', T2, hm2, hd4', hmd2, hf4⟩
  rw [x4] at hmd2
  have HS4 := hide HS4'
  have HT2 := hide T2
  have HD4 := hide hd4'
  have HF4 := hide (HF3.out.trans hf4)
  have HK4 := hide (HK3.out.fr hf4 (fun hk => hgS _ hk rfl))
  have hfew2 := T2.few
  rw [x4] at hfew2
  clear HS4' T2 hf4 hd4' HS3 HK3 HF3 HD3 HR2 k2
  have k0 := HK4.out.cell 0
  have HN := hide (bdNode_any S B gn gu gt gc m2 vars A2 w4 lo hi d.var HS4.out hV.1 (by have := HI.out.xv; omega) (HT2.out.ext.has HT1.out.has) (by rw [HT2.out.ext.top HT1.out.has]; have := HT1.out.top; have := hL.2; omega) HT2.out.has (by have := HT2.out.top; rw [x4] at this; have := hH.2; omega) (by omega))
  go_wp2_with fail
  refine (HN.out).mono ?_
  rintro e w5 ⟨A3, y, m3, rfl, HS5', T3, hm3, hf5⟩
  have HS5 := hide HS5'
  have HT3 := hide T3
  have HD5 := hide (DoneM.node HD4.out hf5 HI.out.gs HS4.out.sp HS5'.sp T3.ext)
  have HF5 := hide (HF4.out.trans (hf5.mono fun k _ hk => .inl hk))
  clear HS5' T3 hf5 HS4 HK4 HF4 HD4 HN k0
  have HJ := hide (JN.out A1 A2 A3 lo hi y HT1.out HT2.out HT3.out)
  obtain ⟨f3, hc3, ho3⟩ := HD5.out
  have HC3 := hide hc3
  have HO3 := hide ho3
  clear hc3 ho3
  have hyI := HS5.out.sp.i64 HT3.out.has
  have hhI := HS5.out.sp.i64 (HJ.out.ext.has hIP)
  go_wp2_with (first
    | (at_mapUpdate; refine storeV keyS_int rfl _ _ _ 93 rfl Tryz.underlying93 rfl HC3.out h y rfl rfl hhI hyI (by omega) ?_; intro w6 hm6 hg6; have HM6 := hide hm6; have HG6 := hide hg6; clear hm6 hg6)
    | fail)
  go_ret2
  have hkp : SpM w6 S B gn gu gt gc vars A3 m3 := HS5.out.keep fun k hk => HG6.out.block k (hk.elim (fun h1 => HS5.out.lt h1) fun e => by rw [e]; exact HS5.out.kS.lt) (fun e => by
    injection e with e
    rcases hk with hk | hk
    · exact HI.out.gs (e ▸ hk)
    · exact HI.out.gS (e.symm.trans hk))
  refine ⟨A3, y, m3, md2 + 1, rfl, hkp, HJ.out, by omega, ⟨_, HM6.out, HO3.out.put (HJ.out.ext.has hIP) HJ.out.has (by rw [HJ.out.ext.top hIP]; exact HJ.out.top) fun v => ?_⟩, by rw [ht]; omega, HF5.out.grown HG6.out (fun k e => by cases e; exact .inr rfl)⟩
  rw [HJ.out.den v]
  exact (setF_ext HI.out.sp.sp HJ.out.sp HJ.out.ext hIP v).symm
theorem bdset_all : ∀ (n : Nat) (h : Int) (A : Ar) (m md : Nat) (w : World), (24 - topA A h).toNat ≤ n → SetI w S B gn gu gt gc m vars A gd md x is h →
    Calls Tryz.prog 119 #[.pointer (some ⟨S, 0, none⟩), .int .i64 h, .int .i64 x, .bool is, .map (some gd)] w (SetP w S B gn gu gt gc m vars A gd md x is h) := by
  intro n
  induction n with
  | zero =>
    intro h A m md w hn hI
    refine set_far S B gn gu gt gc m vars A w gd md x is h hI ?_
    have := hI.sp.v6
    have := hI.xv
    omega
  | succ n ih =>
    intro h A m md w hn hI
    by_cases h1 : x < topA A h
    · exact set_far S B gn gu gt gc m vars A w gd md x is h hI h1
    · cases hg : gotA A h with
      | none => have := top_none hg; have := hI.sp.v6; have := hI.xv; omega
      | some d =>
        have ht := top_some hg
        by_cases h2 : d.var = x
        · exact set_at S B gn gu gt gc m vars A w gd md x is h d hI hg h2
        · obtain ⟨f, hm, ho⟩ := hI.done
          cases hf : f h with
          | some y => exact set_known S B gn gu gt gc m vars A w gd md x is h d y hI hg (by omega) f hm ho hf
          | none =>
            have hw := hI.sp.sp.wf.dep hg
            exact set_step S B gn gu gt gc m vars A w gd md x is h d hI hg (by omega) f hm hf fun h' A' m' md' w' h3 h4 => ih h' A' m' md' w' (by omega) h4
end
section
variable (S B gn gu gt gc m : Nat) (vars : Int) (A : Ar) (w : World) (x : Int) (is : Bool) (h : Int)
def SetQ (w : World) (S B gn gu gt gc m : Nat) (vars : Int) (A : Ar) (h x : Int) (is : Bool) (e : Ending) (w' : World) : Prop :=
  StpP w S B gn gu gt gc vars A m (wt (topA A h)) 0 (topA A h) (setF A h x is) e w'
set_option maxHeartbeats 2000000 in
theorem bdSet_any (hs : SpM w S B gn gu gt gc vars A m) (p : hasA A h = true) (x0 : 0 ≤ x) (xv : x < vars) (hl : low3 A + wt (topA A h) ≤ 2000) :
    Calls Tryz.prog 79 #[.pointer (some ⟨S, 0, none⟩), .int .i64 h, .int .i64 x, .bool is] w (SetQ w S B gn gu gt gc m vars A h x is) := by
  have s0 := hs.kS.cell 0
  have s1 := hs.kS.cell 1
  have d1 : decide (x < 0) = false := decide_eq_false (by omega)
  have d2 : decide (vars ≤ x) = false := decide_eq_false (by omega)
  have HH := hide (hasA_call B gn gu gt A h w hs.ar (hs.sp.i64 p) p)
  have HB := hide ((Below.refl w.heap.size w).alloc (Nat.le_refl _) (.map #[] 0))
  have hmm := @run_makeMap Tryz.prog
  have hwc := wc_le (topA A h)
  have HC := hide (bdset_all S B gn gu gt gc vars w.heap.size x is _ h A m 0 (w.alloc (.map #[] 0)) (Nat.le_refl _) ⟨hs.below HB.out, p, x0, xv, ⟨_, mapV_made w, .none A x is⟩, hl, by omega, fun hk => by have := hs.lt hk; omega, fun e => by have := hs.kS.lt; omega⟩)
  clear hs
  go_enter Tryz.func79, Tryz.ntmps79
  go_wp2_with fail
  refine (HH.out).mono ?_
  rintro e w1 ⟨rfl, rfl⟩
  go_wp2_with fail
  refine (HC.out).mono ?_
  rintro e w2 ⟨A', y, m', md', rfl, h1, h2, h3, _, _, h4⟩
  have HQ := hide (show SetQ w S B gn gu gt gc m vars A h x is (.returned (.tuple #[.int .i64 y, .nilIface])) w2 from
    ⟨A', y, m', rfl, h1, h2, h3, (Fr.of_below HB.out (Nat.le_refl _)).and_ h4 (fun i hi hk => hk.elim id (fun e => by omega))⟩)
  clear h1 h2 h3 h4
  go_wp2
  go_ret2
  exact HQ.out
end
end Go.Proofs.YtdlcldhnbhlikaaGreatDoor
namespace Go.Proofs.YtdlcldhnbhlikaaGreatDoor
open Go.RowKit Go.Maps

/-- What c calls of ite or Set make. -/
def OpP (w : World) (S B gn gu gt gc m : Nat) (vars : Int) (A : Ar) (c : Nat) (F : (Int → Bool) → Bool) (e : Ending) (w' : World) : Prop :=
  StpP w S B gn gu gt gc vars A m (7 * c) (63 * c) 0 F e w'
section
variable {w w' w1 : World} {S B gn gu gt gc m m1 : Nat} {vars : Int} {A A1 A2 : Ar} {F F1 F2 : (Int → Bool) → Bool} {c c1 c2 : Nat}
theorem OpP.after {e : Ending} {x t : Int} (h : OpP w1 S B gn gu gt gc m1 vars A1 c2 F e w') (S1 : StpA A A1 vars (7 * c1) t x F1) (hm : m1 ≤ m + 63 * c1) (hf : Fr (spB B gn gu gt gc) w w1) : OpP w S B gn gu gt gc m vars A (c1 + c2) F e w' := by
  obtain ⟨A', y, m', e1, e2, e3, e4, e5⟩ := h
  exact ⟨A', y, m', e1, e2, ⟨e3.sp, S1.ext.trans e3.ext, by have := e3.few; have := S1.few; omega, e3.has, e3.top, e3.den⟩, by omega, hf.trans e5⟩
/-- Room for so many. -/
structure OpI (w : World) (S B gn gu gt gc m : Nat) (vars : Int) (A : Ar) (c : Nat) : Prop where
  sp : SpM w S B gn gu gt gc vars A m
  low : low3 A + 7 * c ≤ 2000
  most : m + 63 * c ≤ 1000000
theorem OpI.next (h : OpI w S B gn gu gt gc m vars A (c1 + c2)) {x t : Int} (hs : SpM w1 S B gn gu gt gc vars A1 m1) (S1 : StpA A A1 vars (7 * c1) t x F1) (hm : m1 ≤ m + 63 * c1) : OpI w1 S B gn gu gt gc m1 vars A1 c2 :=
  ⟨hs, by have := h.low; have := S1.few; omega, by have := h.most; omega⟩
theorem SpA.top0 (h : SpA A vars) (x : Int) : 0 ≤ topA A x := (h.wf.topR x).1
theorem topI0 (h : SpA A vars) (a b c : Int) : 0 ≤ topI A a b c := by
  have := h.top0 a
  have := h.top0 b
  have := h.top0 c
  unfold topI min3
  omega
end
section
variable (S B gn gu gt gc m : Nat) (vars : Int) (A : Ar) (w : World)
set_option maxHeartbeats 2000000 in
theorem bdIte_any (a b c : Int) (F : (Int → Bool) → Bool) (h : OpI w S B gn gu gt gc m vars A 1) (pa : hasA A a = true) (pb : hasA A b = true) (pc : hasA A c = true) (hF : ∀ v, iteF A a b c v = F v) :
    Calls Tryz.prog 78 #[.pointer (some ⟨S, 0, none⟩), .int .i64 a, .int .i64 b, .int .i64 c] w (OpP w S B gn gu gt gc m vars A 1 F) := by
  have s0 := h.sp.kS.cell 0
  have HA := hide (hasA_call B gn gu gt A a w h.sp.ar (h.sp.sp.i64 pa) pa)
  have HB := hide (hasA_call B gn gu gt A b w h.sp.ar (h.sp.sp.i64 pb) pb)
  have HC := hide (hasA_call B gn gu gt A c w h.sp.ar (h.sp.sp.i64 pc) pc)
  have HI := hide ((bdite_any S B gn gu gt gc m vars A w a b c ⟨h.sp, pa, pb, pc, by have := h.low; have := wt_le (topI A a b c); omega, by have := h.most; have := wc_le (topI A a b c); omega⟩).mono fun e w' hp =>
    show OpP w S B gn gu gt gc m vars A 1 F e w' from StpP.mono hp (by have := wt_le (topI A a b c); omega) (by have := wc_le (topI A a b c); omega) (topI0 h.sp.sp a b c) hF)
  clear h
  go_enter Tryz.func78, Tryz.ntmps78
  go_wp2_with fail
  refine (HA.out).mono ?_
  rintro e w1 ⟨rfl, rfl⟩
  go_wp2_with fail
  refine (HB.out).mono ?_
  rintro e w1 ⟨rfl, rfl⟩
  go_wp2_with fail
  refine (HC.out).mono ?_
  rintro e w1 ⟨rfl, rfl⟩
  go_wp2_with fail
  refine (HI.out).mono ?_
  rintro e w2 hp
  have hq := hide hp
  obtain ⟨A', x, m', rfl, -⟩ := hp
  go_wp2
  go_ret2
  exact hq.out
set_option maxHeartbeats 1000000 in
theorem bdNot_any (a : Int) (F : (Int → Bool) → Bool) (h : OpI w S B gn gu gt gc m vars A 1) (pa : hasA A a = true) (hF : ∀ v, (!den A a v) = F v) :
    Calls Tryz.prog 74 #[.pointer (some ⟨S, 0, none⟩), .int .i64 a] w (OpP w S B gn gu gt gc m vars A 1 F) := by
  have HI := hide (bdIte_any S B gn gu gt gc m vars A w a 0 1 F h pa has_ends.1 has_ends.2 (fun v => by
    rw [← hF v]
    unfold iteF
    rw [den_zero, den_one]
    cases den A a v <;> rfl))
  clear h
  go_enter Tryz.func74, Tryz.ntmps74
  go_wp2_with fail
  refine (HI.out).mono ?_
  rintro e w2 hp
  have hq := hide hp
  obtain ⟨A', x, m', rfl, -⟩ := hp
  go_wp2
  go_ret2
  exact hq.out
set_option maxHeartbeats 1000000 in
theorem bdAnd_any (a b : Int) (F : (Int → Bool) → Bool) (h : OpI w S B gn gu gt gc m vars A 1) (pa : hasA A a = true) (pb : hasA A b = true) (hF : ∀ v, (den A a v && den A b v) = F v) :
    Calls Tryz.prog 75 #[.pointer (some ⟨S, 0, none⟩), .int .i64 a, .int .i64 b] w (OpP w S B gn gu gt gc m vars A 1 F) := by
  have HI := hide (bdIte_any S B gn gu gt gc m vars A w a b 0 F h pa pb has_ends.1 (fun v => by
    rw [← hF v]
    unfold iteF
    rw [den_zero]
    cases den A a v <;> rfl))
  clear h
  go_enter Tryz.func75, Tryz.ntmps75
  go_wp2_with fail
  refine (HI.out).mono ?_
  rintro e w2 hp
  have hq := hide hp
  obtain ⟨A', x, m', rfl, -⟩ := hp
  go_wp2
  go_ret2
  exact hq.out
set_option maxHeartbeats 1000000 in
theorem bdOr_any (a b : Int) (F : (Int → Bool) → Bool) (h : OpI w S B gn gu gt gc m vars A 1) (pa : hasA A a = true) (pb : hasA A b = true) (hF : ∀ v, (den A a v || den A b v) = F v) :
    Calls Tryz.prog 76 #[.pointer (some ⟨S, 0, none⟩), .int .i64 a, .int .i64 b] w (OpP w S B gn gu gt gc m vars A 1 F) := by
  have HI := hide (bdIte_any S B gn gu gt gc m vars A w a 1 b F h pa has_ends.2 pb (fun v => by
    rw [← hF v]
    unfold iteF
    rw [den_one]
    cases den A a v <;> rfl))
  clear h
  go_enter Tryz.func76, Tryz.ntmps76
  go_wp2_with fail
  refine (HI.out).mono ?_
  rintro e w2 hp
  have hq := hide hp
  obtain ⟨A', x, m', rfl, -⟩ := hp
  go_wp2
  go_ret2
  exact hq.out
set_option maxHeartbeats 1000000 in
theorem bdXor_any (a b : Int) (F : (Int → Bool) → Bool) (h : OpI w S B gn gu gt gc m vars A (1 + 1)) (pa : hasA A a = true) (pb : hasA A b = true) (hF : ∀ v, (den A a v != den A b v) = F v) :
    Calls Tryz.prog 77 #[.pointer (some ⟨S, 0, none⟩), .int .i64 a, .int .i64 b] w (OpP w S B gn gu gt gc m vars A (1 + 1) F) := by
  have HN := hide (bdNot_any S B gn gu gt gc m vars A w b (fun v => !den A b v) ⟨h.sp, by have := h.low; omega, by have := h.most; omega⟩ pb (fun _ => rfl))
  have H := hide h
  clear h
  go_enter Tryz.func77, Tryz.ntmps77
  go_wp2_with fail
  refine (HN.out).mono ?_
  rintro e w1 ⟨A1, n, m1, rfl, hs1, T1, hm1, hf1⟩
  have HI := hide ((bdIte_any S B gn gu gt gc m1 vars A1 w1 a n b F (H.out.next hs1 T1 hm1) (T1.ext.has pa) T1.has (T1.ext.has pb) (fun v => by
    rw [← hF v]
    unfold iteF
    rw [T1.den, H.out.sp.sp.same T1.sp T1.ext pa, H.out.sp.sp.same T1.sp T1.ext pb]
    cases den A a v <;> cases den A b v <;> rfl)).mono fun e w' hp => hp.after T1 hm1 hf1)
  clear hs1 T1 hm1 hf1
  go_wp2_with fail
  refine (HI.out).mono ?_
  rintro e w2 hp
  have hq := hide hp
  obtain ⟨A', x, m', rfl, -⟩ := hp
  go_wp2
  go_ret2
  exact hq.out
set_option maxHeartbeats 1000000 in
theorem bdSetO_any (h x : Int) (is : Bool) (F : (Int → Bool) → Bool) (hI : OpI w S B gn gu gt gc m vars A 1) (p : hasA A h = true) (x0 : 0 ≤ x) (xv : x < vars) (hF : ∀ v, setF A h x is v = F v) :
    Calls Tryz.prog 79 #[.pointer (some ⟨S, 0, none⟩), .int .i64 h, .int .i64 x, .bool is] w (OpP w S B gn gu gt gc m vars A 1 F) :=
  (bdSet_any S B gn gu gt gc m vars A w x is h hI.sp p x0 xv (by have := hI.low; have := wt_le (topA A h); omega)).mono fun e w' hp =>
    show OpP w S B gn gu gt gc m vars A 1 F e w' from StpP.mono hp (by have := wt_le (topA A h); omega) (by omega) (hI.sp.sp.top0 h) hF
/-- What both asks of its function. -/
def WithC (S B gn gu gt gc : Nat) (vars : Int) (f : FuncId) (g : Bool → Bool → Bool) : Prop := ∀ (m : Nat) (A : Ar) (w : World) (a b : Int) (F : (Int → Bool) → Bool), OpI w S B gn gu gt gc m vars A 1 → hasA A a = true → hasA A b = true → (∀ v, g (den A a v) (den A b v) = F v) →
  Calls Tryz.prog f #[.pointer (some ⟨S, 0, none⟩), .int .i64 a, .int .i64 b] w (OpP w S B gn gu gt gc m vars A 1 F)
set_option maxRecDepth 100000 in
set_option maxHeartbeats 2000000 in
theorem bdBoth_any (f : FuncId) (g : Bool → Bool → Bool) (hfn : f = 76 ∨ f = 75) (h x : Int) (F : (Int → Bool) → Bool) (hI : OpI w S B gn gu gt gc m vars A (1 + (1 + 1))) (p : hasA A h = true) (x0 : 0 ≤ x) (xv : x < vars) (hW : WithC S B gn gu gt gc vars f g) (hF : ∀ v, g (setF A h x false v) (setF A h x true v) = F v) :
    Calls Tryz.prog 120 #[.pointer (some ⟨S, 0, none⟩), .int .i64 h, .int .i64 x, .func (.func f) #[.pointer (some ⟨S, 0, none⟩)] #[]] w (OpP w S B gn gu gt gc m vars A (1 + (1 + 1)) F) := by
  rcases hfn with rfl | rfl
  all_goals
    have H1 := hide (bdSetO_any S B gn gu gt gc m vars A w h x false (setF A h x false) ⟨hI.sp, by have := hI.low; omega, by have := hI.most; omega⟩ p x0 xv (fun _ => rfl))
    have H := hide hI
    clear hI
    go_enter Tryz.func120, Tryz.ntmps120
    go_wp2_with fail
    refine (H1.out).mono ?_
    rintro e w1 ⟨A1, lo, m1, rfl, hs1, T1, hm1, hf1⟩
    have HX1 := hide (H.out.next hs1 T1 hm1)
    have HT1 := hide (And.intro T1 (And.intro hm1 hf1))
    have H2 := hide (bdSetO_any S B gn gu gt gc m1 vars A1 w1 h x true (setF A1 h x true) ⟨hs1, by have := HX1.out.low; omega, by have := HX1.out.most; omega⟩ (T1.ext.has p) x0 xv (fun _ => rfl))
    clear hs1 T1 hm1 hf1 H1
    go_wp2_with fail
    refine (H2.out).mono ?_
    rintro e w2 ⟨A2, hi, m2, rfl, hs2, T2, hm2, hf2⟩
    have HW := hide ((hW m2 A2 w2 lo hi F (HX1.out.next hs2 T2 hm2) (T2.ext.has HT1.out.1.has) T2.has (fun v => by
      rw [← hF v, T2.den, HT1.out.1.sp.same T2.sp T2.ext HT1.out.1.has, HT1.out.1.den, setF_ext H.out.sp.sp HT1.out.1.sp HT1.out.1.ext p])).mono fun e w' hp => (hp.after T2 hm2 hf2).after HT1.out.1 HT1.out.2.1 HT1.out.2.2)
    clear hs2 T2 hm2 hf2 H2
    go_wp2_with fail
    refine (HW.out).mono ?_
    rintro e w3 hp
    have hq := hide hp
    obtain ⟨A', y, m', rfl, -⟩ := hp
    go_wp2
    go_ret2
    exact hq.out
set_option maxRecDepth 100000 in
set_option maxHeartbeats 1000000 in
theorem bdSome_any (h x : Int) (F : (Int → Bool) → Bool) (hI : OpI w S B gn gu gt gc m vars A (1 + (1 + 1))) (p : hasA A h = true) (x0 : 0 ≤ x) (xv : x < vars) (hF : ∀ v, (setF A h x false v || setF A h x true v) = F v) :
    Calls Tryz.prog 80 #[.pointer (some ⟨S, 0, none⟩), .int .i64 h, .int .i64 x] w (OpP w S B gn gu gt gc m vars A (1 + (1 + 1)) F) := by
  have HI := hide (bdBoth_any S B gn gu gt gc m vars A w 76 (fun a b => a || b) (.inl rfl) h x F hI p x0 xv (fun m A w a b F h1 h2 h3 h4 => bdOr_any S B gn gu gt gc m vars A w a b F h1 h2 h3 h4) hF)
  clear hI
  have hmf : ∀ (fn : Fn) (first cap : Array Value) (w : World), (Instr.makeFunc fn first cap).run Tryz.prog w = .ok (.func fn first cap) w := by intros; rfl
  go_enter Tryz.func80, Tryz.ntmps80
  go_wp2_with fail
  refine (HI.out).mono ?_
  rintro e w2 hp
  have hq := hide hp
  obtain ⟨A', y, m', rfl, -⟩ := hp
  go_wp2
  go_ret2
  exact hq.out
set_option maxRecDepth 100000 in
set_option maxHeartbeats 1000000 in
theorem bdEach_any (h x : Int) (F : (Int → Bool) → Bool) (hI : OpI w S B gn gu gt gc m vars A (1 + (1 + 1))) (p : hasA A h = true) (x0 : 0 ≤ x) (xv : x < vars) (hF : ∀ v, (setF A h x false v && setF A h x true v) = F v) :
    Calls Tryz.prog 81 #[.pointer (some ⟨S, 0, none⟩), .int .i64 h, .int .i64 x] w (OpP w S B gn gu gt gc m vars A (1 + (1 + 1)) F) := by
  have HI := hide (bdBoth_any S B gn gu gt gc m vars A w 75 (fun a b => a && b) (.inr rfl) h x F hI p x0 xv (fun m A w a b F h1 h2 h3 h4 => bdAnd_any S B gn gu gt gc m vars A w a b F h1 h2 h3 h4) hF)
  clear hI
  have hmf : ∀ (fn : Fn) (first cap : Array Value) (w : World), (Instr.makeFunc fn first cap).run Tryz.prog w = .ok (.func fn first cap) w := by intros; rfl
  go_enter Tryz.func81, Tryz.ntmps81
  go_wp2_with fail
  refine (HI.out).mono ?_
  rintro e w2 hp
  have hq := hide hp
  obtain ⟨A', y, m', rfl, -⟩ := hp
  go_wp2
  go_ret2
  exact hq.out
end
end Go.Proofs.YtdlcldhnbhlikaaGreatDoor
