/-
  A space's Count, given what counts answers. counts at an end; Count of an empty space; All and Lit there; bdd.New for any numbers.
-/
import Derived.Test.YtfbhmkpihmcegaaDoorBddNeeds
import Derived.Test.YtfbhmkpihmcegaaDoorNatDbl
import Derived.Deep.RegionHeld3
import Derived.Test.YtfbhmkpihmcegaaDoorBddG
namespace Go.Proofs.YtfbhmkpihmcegaaDoor
open Go.RowKit Go.Maps

def CtsP (w : World) (gd N : Nat) (e : Ending) (w' : World) : Prop := ∃ v, e = .returned v ∧ NatV w' v N ∧ Fr (fun k => k = gd) w w'
def CountP (w : World) (N : Nat) (e : Ending) (w' : World) : Prop := ∃ v, e = .returned (.tuple #[v, .nilIface]) ∧ NatV w' v N ∧ Below w.heap.size w w'
section
variable (S B gn gu gt gc : Nat) (vars : Int) (A : Ar) (w : World)
set_option maxHeartbeats 2000000 in
theorem bdCount_no (x : Int) (h : SpB w S B gn gu gt gc vars A) (hx : I64 x) (p : hasA A x = false) :
    Calls Tryd.prog 28 #[.pointer (some ⟨S, 0, none⟩), .int .i64 x] w (fun e w' => ∃ Av nv cv, e = .returned (.tuple #[.agg #[.slice Av nv cv], errV 7]) ∧ Below w.heap.size w w') := by
  have hal := (Below.refl w.heap.size w).alloc (Nat.le_refl _) (.cells #[.slice none 0 0] 66)
  have hk := Blk.new w 66 #[.slice none 0 0]
  have HSP := h.below hal
  have s0 := HSP.kS.cell 0
  have HA := hide (hasN_call B gn gu gt A _ x HSP.ar hx p)
  have HB := hide hal
  have c0 := hk.cell 0
  have f0 := hk.frozen 0
  clear h hal hk HSP
  go_enter Tryd.func28, Tryd.ntmps28
  go_wp2_with fail
  refine (HA.out).mono ?_
  rintro e w1 ⟨rfl, rfl⟩
  go_wp2
  exact bodyPost_ret (v := .tuple #[.agg #[.slice none 0 0], .iface 29 (.int .i64 7)]) (by simp [results, Tryd.results28, go_sem, c0]) rfl ⟨none, 0, 0, by rw [errV_ne (by decide)], HB.out⟩
theorem spB_fr {w w' : World} {gd : Nat} (h : SpB w S B gn gu gt gc vars A) (hf : Fr (fun k => k = gd) w w') (hd : ∃ es c, w.heap[gd]? = some (.map es c)) : SpB w' S B gn gu gt gc vars A := by
  obtain ⟨es, c, hm⟩ := hd
  have hne : ∀ {k : Nat} {t : TypeId} {cs : Array Value}, Blk w k t cs → k ≠ gd := fun hk e => by
    subst e
    cases hk.symm.trans hm
  obtain ⟨ns, us, tab, _, h2, h3, h4, h5⟩ := h.ar.is
  refine ⟨h.kS.fr hf (hne h.kS), h.ar.keep fun k hk => hf.block k (h.ar.lt hk) ?_, h.wf⟩
  rcases hk with rfl | rfl | rfl | rfl
  · exact hne h2
  · exact hne h3
  · exact hne h4
  · exact hne h5
set_option maxRecDepth 100000 in
set_option maxHeartbeats 4000000 in
theorem bdCount_of (x : Int) (N K : Nat) (h : SpB w S B gn gu gt gc vars A) (hx : I64 x) (p : hasA A x = true) (hK : min (topA A x) vars = (K : Int)) (hK2 : K ≤ 1000) (hN : Hid (N * 2 ^ K < 4294967296 ^ 1000))
    (HC : Hid (Calls Tryd.prog 67 #[.pointer (some ⟨S, 0, none⟩), .int .i64 x, .map (some (w.heap.size + 1))] ((w.alloc (.cells #[.slice none 0 0] 66)).alloc (.map #[] 0)) (CtsP ((w.alloc (.cells #[.slice none 0 0] 66)).alloc (.map #[] 0)) (w.heap.size + 1) N))) :
    Calls Tryd.prog 28 #[.pointer (some ⟨S, 0, none⟩), .int .i64 x] w (CountP w (N * 2 ^ K)) := by
  have hmm := @run_makeMap Tryd.prog
  have hal := (Below.refl w.heap.size w).alloc (Nat.le_refl _) (.cells #[.slice none 0 0] 66)
  have HSP := h.below hal
  have s0 := HSP.kS.cell 0
  have HA := hide (hasA_call B gn gu gt A x _ HSP.ar hx p)
  have hb0 := hal.alloc (by simp) (.map #[] 0)
  have HB0 := hide hb0
  have HS0 := hide (h.below hb0)
  have HK4 := hide ((Blk.new w 66 #[.slice none 0 0]).alloc (.map #[] 0))
  have HMP := Lib.hid (show ∃ es c, ((w.alloc (.cells #[.slice none 0 0] 66)).alloc (.map #[] 0)).heap[w.heap.size + 1]? = some (.map es c) from ⟨#[], 0, by
    have := heap_alloc_new (w.alloc (.cells #[.slice none 0 0] 66)) (.map #[] 0)
    simpa using this⟩)
  clear h hal HSP hb0
  obtain ⟨g4, HG⟩ : ∃ g4, Hid (w.heap.size = g4) := ⟨_, Lib.hid rfl⟩
  go_enter Tryd.func28, Tryd.ntmps28
  go_wp2_with fail
  refine (HA.out).mono ?_
  rintro e w1 ⟨rfl, rfl⟩
  clear HA
  go_wp2_with fail
  rw [HG.out] at HC HK4 HMP ⊢
  generalize (w.alloc (.cells #[.slice none 0 0] 66)).alloc (.map #[] 0) = wM at HC HB0 HS0 HK4 HMP ⊢
  refine (HC.out).mono ?_
  rintro e w2 ⟨v, rfl, hv, hf⟩
  obtain ⟨Av, nv, cv, rfl⟩ := hv.form
  have hal := (Below.refl w2.heap.size w2).alloc (Nat.le_refl _) (.cells #[.slice Av nv cv] 66)
  have HS2 := hide ((spB_fr S B gn gu gt gc vars A HS0.out hf HMP.out).below hal)
  have HV2 := hide (hv.below hal)
  have HB2 := hide ((HB0.out.trans (hf.to_below HB0.out.size (fun k hk e => by have := HG.out; omega))).trans (hal.mono (Nat.le_trans HB0.out.size hf.size)))
  have HK2 := hide ((HK4.out.fr hf (by omega)).below hal (Nat.lt_of_lt_of_le HK4.out.lt hf.size))
  have HK6 := hide (Blk.new w2 66 #[.slice Av nv cv])
  clear hal hv hf HC HS0 HK4 HMP HB0 s0
  have s0 := HS2.out.kS.cell 0
  have s1 := HS2.out.kS.cell 1
  have n0 := HK6.out.cell 0
  have c4 := HK2.out.cell 0
  have f4 := HK2.out.frozen 0
  have l4 := HK2.out.lt
  have lS := HS2.out.kS.lt
  have l6 := HK6.out.lt
  go_wp2
  generalize hg6 : w2.heap.size = g6 at n0 l6 ⊢
  generalize (w2.alloc (.cells #[.slice Av nv cv] 66)) = w3 at HS2 HV2 HB2 HK2 HK6 s0 s1 n0 c4 f4 l4 lS l6 ⊢
  have HTP := hide ((arTop_any B gn gu gt A x w3.drew (HS2.out.ar.below (Below.refl _ _).drew (fun _ hk => HS2.out.ar.lt hk)) hx).mono (fun e w' hp => show e = .returned (.int .i64 (topA A x)) ∧ Below w3.heap.size w3 w' from ⟨hp.1, (Below.refl _ _).drew.trans hp.2⟩))
  have HDB := Lib.hid (fun (wt : World) (hb : Below w3.heap.size w3 wt) => double_any (.agg #[.slice Av nv cv]) N K (K : Int) wt (HV2.out.below hb) (by omega) hN ⟨by omega, by omega⟩)
  go_region_with (first
    | (go_at_call 18; refine (HTP.out).mono ?_; rintro e wt ⟨rfl, hbt⟩; have s0t := (hbt.cell (p := ⟨S, 0, none⟩) lS).trans s0; have s1t := (hbt.cell (p := ⟨S, 1, none⟩) lS).trans s1; have n0t := (hbt.cell (p := ⟨g6, 0, none⟩) l6).trans n0)
    | (go_at_call 41; refine (HDB.out _ hbt).mono ?_; rintro e wd ⟨vd, rfl, hvd, hbd⟩; obtain ⟨Ad, nd, cd, ed⟩ := hvd.form; subst ed; have hb4 := hbt.trans (hbd.mono hbt.size); have c4d := (hb4.cell (p := ⟨g4, 0, none⟩) l4).trans c4; have f4d := (hb4.frozen (p := ⟨g4, 0, none⟩) l4).trans f4))
  all_goals
    have HK9 := hide ((HK2.out.below hb4 l4).set_ 0 (.slice Ad nd cd))
    have d9 := HK9.out.cell 0
    have HV9 := hide (natV_set (u := .slice Ad nd cd) hvd (c4d) (fun i e => by cases e))
    have HB9 := hide ((HB2.out.trans (hb4.mono HB2.out.size)).setCell (p := ⟨g4, 0, none⟩) (by rw [HG.out]; exact Nat.le_refl _) (.slice Ad nd cd))
    clear hvd hb4 hbd hbt
    go_wp2
    exact bodyPost_ret (v := .tuple #[.agg #[.slice Ad nd cd], .nilIface]) (by simp [results, Tryd.results28, go_sem, d9]) rfl ⟨_, rfl, HV9.out, HB9.out⟩
end
end Go.Proofs.YtfbhmkpihmcegaaDoor
namespace Go.Proofs.YtfbhmkpihmcegaaDoor
open Go.RowKit Go.Maps

section
variable (S B gn gu gt gc : Nat) (vars : Int) (A : Ar) (w : World)
set_option maxHeartbeats 2000000 in
theorem cts_none (x : Int) (gd : Nat) (h : SpB w S B gn gu gt gc vars A) (hx : x = 0 ∨ x = 1) :
    Calls Tryd.prog 67 #[.pointer (some ⟨S, 0, none⟩), .int .i64 x, .map (some gd)] w (CtsP w gd x.toNat) := by
  have hx64 : I64 x := by unfold I64; omega
  have hg : gotA A x = none := gotA_low (by omega)
  have hal := (Below.refl w.heap.size w).alloc (Nat.le_refl _) (.cells #[.slice none 0 0] 66)
  have hk := Blk.new w 66 #[.slice none 0 0]
  have hsp := h.below hal
  have s0 := hsp.kS.cell 0
  have HG := hide (arGet_none B gn gu gt A x _ hsp.ar hx64 hg)
  have HB := hide hal
  have HK := hide hk
  have HO := hide (fun w' => of_any x w' (by omega))
  rw [show (max 0 x).toNat = x.toNat by omega] at HO
  clear h hal hk hsp hg
  go_enter Tryd.func67, Tryd.ntmps67
  go_wp2_with fail
  generalize hg6 : w.heap.size = g6 at HK ⊢
  have h6 : w.heap.size ≤ g6 := by omega
  generalize (w.alloc (.cells #[.slice none 0 0] 66)) = w1 at HG HB HK s0 ⊢
  refine (HG.out).mono ?_
  rintro e w2 ⟨rfl, hb2⟩
  have hal2 := hb2.alloc hb2.size (.cells #[.int .i64 0, .int .i64 0, .int .i64 0] 39)
  have HB2 := hide (HB.out.trans (hal2.mono HB.out.size))
  have HK2 := hide (HK.out.below hal2 HK.out.lt)
  clear hb2 hal2 s0
  go_wp2_with fail
  refine (HO.out _).mono ?_
  rintro e w3 ⟨v, rfl, hv, hb3⟩
  obtain ⟨Av, nv, cv, rfl⟩ := hv.form
  have hk3 := HK2.out.below hb3 HK2.out.lt
  have c6 := hk3.cell 0
  have f6 := hk3.frozen 0
  have HK9 := hide (hk3.set_ 0 (.slice Av nv cv))
  have d9 := HK9.out.cell 0
  have HV9 := hide (natV_set (u := .slice Av nv cv) hv c6 (fun i e => by cases e))
  have HB9 := hide ((HB2.out.trans (hb3.mono HB2.out.size)).setCell (p := ⟨g6, 0, none⟩) h6 (.slice Av nv cv))
  clear hv hb3 hk3
  go_wp2
  exact bodyPost_ret (v := .agg #[.slice Av nv cv]) (by simp [results, Tryd.results67, go_sem, d9]) rfl ⟨_, rfl, HV9.out, .of_below HB9.out (Nat.le_refl _)⟩
/-- What Count answers there: a number, and an error or none. -/
def CntE (w : World) (c : Int) (e : Ending) (w' : World) : Prop := ∃ Av nv cv, e = .returned (.tuple #[.agg #[.slice Av nv cv], errV c]) ∧ Below w.heap.size w w'
theorem eCount_any (R : Nat) (x : Int) (h : SpE w S B gn gu gt gc vars R) (hx : I64 x) (hv : 0 ≤ vars ∧ vars ≤ 24) :
    Calls Tryd.prog 28 #[.pointer (some ⟨S, 0, none⟩), .int .i64 x] w (CntE w (missE x)) := by
  unfold missE
  cases px : endB x with
  | false => exact bdCount_no S B gn gu gt gc vars (emptyA R) w x h.toB hx (by rw [hasE, px])
  | true =>
    have hx2 := endB_true px
    have hb0 := ((Below.refl w.heap.size w).alloc (Nat.le_refl _) (.cells #[.slice none 0 0] 66)).alloc (by simp) (.map #[] 0)
    have hct := cts_none S B gn gu gt gc vars (emptyA R) _ x (w.heap.size + 1) (h.toB.below hb0) hx2
    have htop : topA (emptyA R) x = 24 := by unfold topA; rw [got_empty]
    refine (bdCount_of S B gn gu gt gc vars (emptyA R) w x x.toNat vars.toNat h.toB hx (by rw [hasE, px]) (by rw [htop]; omega) (by omega) (Lib.hid ?_) (hide hct)).mono fun e w' hp => ?_
    · have h1 : x.toNat * 2 ^ vars.toNat ≤ 1 * 2 ^ 24 := Nat.mul_le_mul (by omega) (Nat.pow_le_pow_right (by omega) (by omega))
      exact Nat.lt_of_le_of_lt h1 (limb_bound (by decide))
    · obtain ⟨v, rfl, hv, hb⟩ := hp
      obtain ⟨Av, nv, cv, rfl⟩ := hv.form
      exact ⟨Av, nv, cv, rfl, hb⟩
end
section
variable (S B gn gu gt gc : Nat) (vars : Int) (R : Nat) (w : World)
set_option maxRecDepth 100000 in
set_option maxHeartbeats 2000000 in
theorem eAll_any (x : Int) (g : Nat) (h : SpE w S B gn gu gt gc vars R) (hx : I64 x) (k0 : w.cell? ⟨g, 0, none⟩ = some (.int .i64 1)) (k1 : w.cell? ⟨g, 1, none⟩ = some (.int .i64 x)) :
    Calls Tryd.prog 31 #[.pointer (some ⟨S, 0, none⟩), .slice (some ⟨g, 0, none⟩) 2 2] w (ErrP w (missE x)) := by
  have HS := hide h
  have hlg := World.block_lt_of_cell? w _ k0
  have HE := Lib.hid (show iteC 1 x 0 = missE x by unfold iteC missE; cases endB x <;> rfl)
  clear h
  go_enter Tryd.func31, Tryd.ntmps31
  have HCL := Lib.hid (fun (wr : World) (hb : Below w.heap.size w wr) => And.intro ((hb.cell (p := ⟨g, 0, none⟩) hlg).trans k0) ((hb.cell (p := ⟨g, 1, none⟩) hlg).trans k1))
  clear k0 k1
  go_wp2
  go_loopw [6, 12] (fun ov iv wr => ∃ i : Nat, i ≤ 2 ∧ iv = .int .i64 i ∧ (∃ o, ov = .int .i64 o ∧ (i < 2 → o = 1)) ∧ (i = 2 → Hid (missE x = 0)) ∧ Hid (Below w.heap.size w wr)) (fun _ iv _ => 2 - (intOf iv).toNat)
  case atStart => exact ⟨0, by omega, rfl, ⟨1, rfl, fun _ => rfl⟩, fun h => absurd h (by decide), hide (Below.refl _ _)⟩
  case round =>
    obtain ⟨i, hi, rfl, ⟨o, rfl, ho⟩, hm, hB⟩ := hrel
    obtain ⟨c0, c1⟩ := HCL.out wr hB.out
    rcases (show i = 0 ∨ i = 1 ∨ i = 2 by omega) with rfl | rfl | rfl
    · obtain rfl := ho (by omega)
      have HA := hide (eAnd_any S B gn gu gt gc vars R wr 1 1 (HS.out.below hB.out) i64_one i64_one)
      rw [show iteX 1 1 0 = 1 by decide, show iteC 1 1 0 = 0 by decide, show AnsP wr 1 0 = fun e w' => e = .returned (.tuple #[.int .i64 1, .nilIface]) ∧ Below wr.heap.size wr w' from rfl] at HA
      clear hm ho
      go_wp2_with fail
      refine (HA.out).mono ?_
      rintro e w2 ⟨rfl, hb2⟩
      have HB2 := hide (hB.out.trans (hb2.mono hB.out.size))
      clear hb2 hB
      go_wp2
      go_roundw
      case rel => exact ⟨1, by omega, by go_num, ⟨1, rfl, fun _ => rfl⟩, fun h => absurd h (by decide), HB2⟩
      case measure => simp [intOf]
    · obtain rfl := ho (by omega)
      have HA := eAnd_any S B gn gu gt gc vars R wr 1 x (HS.out.below hB.out) i64_one hx
      rw [HE.out] at HA
      generalize iteX 1 x 0 = X at HA
      obtain ⟨C, HC⟩ : ∃ C, Hid (missE x = C) := ⟨_, Lib.hid rfl⟩
      rw [HC.out] at HA
      have HA := hide HA
      clear hm ho
      by_cases h0 : C = 0
      · subst h0
        go_wp2_with fail
        refine (HA.out).mono ?_
        rintro e w2 ⟨rfl, hb2⟩
        rw [errV_zero]
        have HB2 := hide (hB.out.trans (hb2.mono hB.out.size))
        clear hb2 hB
        go_wp2
        go_roundw
        case rel => exact ⟨2, by omega, by go_num, ⟨X, rfl, fun h => absurd h (by decide)⟩, fun _ => HC, HB2⟩
        case measure => simp [intOf]
      · have HCE := Lib.hid (errV_ne h0)
        clear h0
        go_wp2_with fail
        refine (HA.out).mono ?_
        rintro e w2 ⟨rfl, hb2⟩
        rw [HCE.out]
        have HB2 := hide (hB.out.trans (hb2.mono hB.out.size))
        clear hb2 hB
        go_wp2
        go_ret2
        exact ⟨_, by rw [HC.out, HCE.out]; rfl, HB2.out⟩
    · have hm2 := hm rfl
      clear hm ho
      go_wp2
      go_ret2
      exact ⟨_, by rw [hm2.out]; rfl, hB.out⟩
theorem make_empty {v : Int} (h0 : 0 ≤ v) (h1 : v < 24) : makeE (emptyA R) ⟨v, 1, 0⟩ = 0 ∨ (makeE (emptyA R) ⟨v, 1, 0⟩ = 12 ∧ R = 0) := by
  have hh : ∀ x, hasA (emptyA R) x = endB x := hasE R
  have ht : ∀ x, topA (emptyA R) x = 24 := fun x => by unfold topA; rw [got_empty]
  unfold makeE
  simp only [hh, ht, end_zero, end_one]
  rw [if_neg (by omega), if_neg (by simp), if_neg (by omega)]
  cases liesA (emptyA R) ⟨v, 1, 0⟩ with
  | some k => exact .inl rfl
  | none =>
    cases e : freeA (emptyA R) with
    | some k => exact .inl rfl
    | none =>
      refine .inr ⟨rfl, ?_⟩
      unfold freeA emptyA at e
      rw [List.findIdx?_eq_none_iff] at e
      rcases Nat.eq_zero_or_pos R with h | h
      · exact h
      · have := e none (List.mem_replicate.2 ⟨by omega, rfl⟩)
        cases this
/-- What Lit answers there. -/
def LiteP (w : World) (B gn gu gt R : Nat) (vars v : Int) (e : Ending) (w' : World) : Prop :=
  ∃ x c, e = .returned (.tuple #[x, errV c]) ∧ (c = (if v < 0 ∨ vars ≤ v then 2 else 0) ∨ (¬ (v < 0 ∨ vars ≤ v) ∧ c = 12 ∧ R = 0)) ∧ Fr (arB B gn gu gt) w w'
set_option maxHeartbeats 2000000 in
theorem enode_any (v : Int) (h : SpE w S B gn gu gt gc vars R) (h0 : 0 ≤ v) (h1 : v < vars) (hv : vars ≤ 24) :
    Calls Tryd.prog 72 #[.pointer (some ⟨S, 0, none⟩), .int .i64 v, .int .i64 1, .int .i64 0] w (LiteP w B gn gu gt R vars v) := by
  have s0 := h.kS.cell 0
  have HMK := hide (arMake_any B gn gu gt (emptyA R) ⟨v, 1, 0⟩ w h.ar ⟨i64_small h0 (show v ≤ 1000000 by omega), i64_one, i64_zero⟩)
  have HME := Lib.hid (make_empty R h0 (show v < 24 by omega))
  have hn : ¬ (v < 0 ∨ vars ≤ v) := by omega
  have HN := Lib.hid hn
  clear h hn
  go_enter Tryd.func72, Tryd.ntmps72
  go_wp2_with fail
  refine (HMK.out).mono ?_
  rintro e w1 ⟨rfl, _, hf⟩
  have hf := hide hf
  go_wp2
  go_ret2
  refine ⟨_, _, rfl, ?_, hf.out⟩
  rw [if_neg HN.out]
  rcases HME.out with h | ⟨h, hr⟩
  · exact .inl h
  · exact .inr ⟨HN.out, h, hr⟩
set_option maxHeartbeats 2000000 in
theorem eLit_any (v : Int) (h : SpE w S B gn gu gt gc vars R) (hv : 0 ≤ vars ∧ vars ≤ 24) :
    Calls Tryd.prog 36 #[.pointer (some ⟨S, 0, none⟩), .int .i64 v, .bool false] w (LiteP w B gn gu gt R vars v) := by
  have s1 := h.kS.cell 1
  by_cases h1 : v < 0
  · have HC := Lib.hid (show (2 : Int) = (if v < 0 ∨ vars ≤ v then 2 else 0) by rw [if_pos (.inl h1)])
    clear h
    go_enter Tryd.func36, Tryd.ntmps36
    go_wp2
    go_ret2
    exact ⟨_, 2, by rw [errV_ne (by decide)]; rfl, .inl HC.out, .refl _ _⟩
  · have h1b : decide (v < 0) = false := decide_eq_false h1
    by_cases h2 : vars ≤ v
    · have HC := Lib.hid (show (2 : Int) = (if v < 0 ∨ vars ≤ v then 2 else 0) by rw [if_pos (.inr h2)])
      clear h
      go_enter Tryd.func36, Tryd.ntmps36
      go_wp2
      go_ret2
      exact ⟨_, 2, by rw [errV_ne (by decide)]; rfl, .inl HC.out, .refl _ _⟩
    · have h2b : decide (vars ≤ v) = false := decide_eq_false h2
      have HN := hide (enode_any S B gn gu gt gc vars R w v h (by omega) (by omega) hv.2)
      clear h
      go_enter Tryd.func36, Tryd.ntmps36
      go_wp2_with fail
      refine (HN.out).mono ?_
      rintro e w1 ⟨x, c, rfl, hc, hf⟩
      have HC := Lib.hid hc
      have HF := hide hf
      clear hc hf
      go_wp2
      go_ret2
      exact ⟨_, _, rfl, HC.out, HF.out⟩
end
end Go.Proofs.YtfbhmkpihmcegaaDoor
