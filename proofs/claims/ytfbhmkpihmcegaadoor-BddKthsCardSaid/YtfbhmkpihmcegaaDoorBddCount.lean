/-
  A space's Count, given what counts answers.
-/
import Derived.Test.YtfbhmkpihmcegaaDoorBddNeeds
import Derived.Test.YtfbhmkpihmcegaaDoorNatDbl
import Derived.Deep.RegionHeld3
namespace Go.Proofs.YtfbhmkpihmcegaaDoor
open Go.RowKit Go.Maps

def CtsP (w : World) (gd N : Nat) (e : Ending) (w' : World) : Prop := ∃ v, e = .returned v ∧ NatV w' v N ∧ Fr (fun k => k = gd) w w'
def CountP (w : World) (N : Nat) (e : Ending) (w' : World) : Prop := ∃ v, e = .returned (.tuple #[v, .nilIface]) ∧ NatV w' v N ∧ Below w.heap.size w w'
section
variable (S B gn gu gt gc : Nat) (vars : Int) (A : Ar) (w : World)
set_option maxHeartbeats 2000000 in
theorem bdCount_no (x : Int) (h : SpB w S B gn gu gt gc vars A) (hx : I64 x) (p : hasA A x = false) :
    Calls Tryd.prog 28 #[.pointer (some ⟨S, 0, none⟩), .int .i64 x] w (fun e w' => ∃ Av nv cv, e = .returned (.tuple #[.agg #[.slice Av nv cv], errV 7]) ∧ Below w.heap.size w w') := by
  have hal := (Below.refl w.heap.size w).alloc (Nat.le_refl _) (.cells #[.slice none 0 0] 66)
  have hk := Blk.new w 66 #[.slice none 0 0]
  have HSP := h.below hal
  have s0 := HSP.kS.cell 0
  have HA := hide (hasN_call B gn gu gt A _ x HSP.ar hx p)
  have HB := hide hal
  have c0 := hk.cell 0
  have f0 := hk.frozen 0
  clear h hal hk HSP
  go_enter Tryd.func28, Tryd.ntmps28
  go_wp2_with fail
  refine (HA.out).mono ?_
  rintro e w1 ⟨rfl, rfl⟩
  go_wp2
  exact bodyPost_ret (v := .tuple #[.agg #[.slice none 0 0], .iface 29 (.int .i64 7)]) (by simp [results, Tryd.results28, go_sem, c0]) rfl ⟨none, 0, 0, by rw [errV_ne (by decide)], HB.out⟩
theorem spB_fr {w w' : World} {gd : Nat} (h : SpB w S B gn gu gt gc vars A) (hf : Fr (fun k => k = gd) w w') (hd : ∃ es c, w.heap[gd]? = some (.map es c)) : SpB w' S B gn gu gt gc vars A := by
  obtain ⟨es, c, hm⟩ := hd
  have hne : ∀ {k : Nat} {t : TypeId} {cs : Array Value}, Blk w k t cs → k ≠ gd := fun hk e => by
    subst e
    cases hk.symm.trans hm
  obtain ⟨ns, us, tab, _, h2, h3, h4, h5⟩ := h.ar.is
  refine ⟨h.kS.fr hf (hne h.kS), h.ar.keep fun k hk => hf.block k (h.ar.lt hk) ?_, h.wf⟩
  rcases hk with rfl | rfl | rfl | rfl
  · exact hne h2
  · exact hne h3
  · exact hne h4
  · exact hne h5
set_option maxRecDepth 100000 in
set_option maxHeartbeats 4000000 in
theorem bdCount_of (x : Int) (N K : Nat) (h : SpB w S B gn gu gt gc vars A) (hx : I64 x) (p : hasA A x = true) (hK : min (topA A x) vars = (K : Int)) (hK2 : K ≤ 1000) (hN : Hid (N * 2 ^ K < 4294967296 ^ 1000))
    (HC : Hid (Calls Tryd.prog 67 #[.pointer (some ⟨S, 0, none⟩), .int .i64 x, .map (some (w.heap.size + 1))] ((w.alloc (.cells #[.slice none 0 0] 66)).alloc (.map #[] 0)) (CtsP ((w.alloc (.cells #[.slice none 0 0] 66)).alloc (.map #[] 0)) (w.heap.size + 1) N))) :
    Calls Tryd.prog 28 #[.pointer (some ⟨S, 0, none⟩), .int .i64 x] w (CountP w (N * 2 ^ K)) := by
  have hmm := @run_makeMap Tryd.prog
  have hal := (Below.refl w.heap.size w).alloc (Nat.le_refl _) (.cells #[.slice none 0 0] 66)
  have HSP := h.below hal
  have s0 := HSP.kS.cell 0
  have HA := hide (hasA_call B gn gu gt A x _ HSP.ar hx p)
  have hb0 := hal.alloc (by simp) (.map #[] 0)
  have HB0 := hide hb0
  have HS0 := hide (h.below hb0)
  have HK4 := hide ((Blk.new w 66 #[.slice none 0 0]).alloc (.map #[] 0))
  have HMP := Lib.hid (show ∃ es c, ((w.alloc (.cells #[.slice none 0 0] 66)).alloc (.map #[] 0)).heap[w.heap.size + 1]? = some (.map es c) from ⟨#[], 0, by
    have := heap_alloc_new (w.alloc (.cells #[.slice none 0 0] 66)) (.map #[] 0)
    simpa using this⟩)
  clear h hal HSP hb0
  obtain ⟨g4, HG⟩ : ∃ g4, Hid (w.heap.size = g4) := ⟨_, Lib.hid rfl⟩
  go_enter Tryd.func28, Tryd.ntmps28
  go_wp2_with fail
  refine (HA.out).mono ?_
  rintro e w1 ⟨rfl, rfl⟩
  clear HA
  go_wp2_with fail
  rw [HG.out] at HC HK4 HMP ⊢
  generalize (w.alloc (.cells #[.slice none 0 0] 66)).alloc (.map #[] 0) = wM at HC HB0 HS0 HK4 HMP ⊢
  refine (HC.out).mono ?_
  rintro e w2 ⟨v, rfl, hv, hf⟩
  obtain ⟨Av, nv, cv, rfl⟩ := hv.form
  have hal := (Below.refl w2.heap.size w2).alloc (Nat.le_refl _) (.cells #[.slice Av nv cv] 66)
  have HS2 := hide ((spB_fr S B gn gu gt gc vars A HS0.out hf HMP.out).below hal)
  have HV2 := hide (hv.below hal)
  have HB2 := hide ((HB0.out.trans (hf.to_below HB0.out.size (fun k hk e => by have := HG.out; omega))).trans (hal.mono (Nat.le_trans HB0.out.size hf.size)))
  have HK2 := hide ((HK4.out.fr hf (by omega)).below hal (Nat.lt_of_lt_of_le HK4.out.lt hf.size))
  have HK6 := hide (Blk.new w2 66 #[.slice Av nv cv])
  clear hal hv hf HC HS0 HK4 HMP HB0 s0
  have s0 := HS2.out.kS.cell 0
  have s1 := HS2.out.kS.cell 1
  have n0 := HK6.out.cell 0
  have c4 := HK2.out.cell 0
  have f4 := HK2.out.frozen 0
  have l4 := HK2.out.lt
  have lS := HS2.out.kS.lt
  have l6 := HK6.out.lt
  go_wp2
  generalize hg6 : w2.heap.size = g6 at n0 l6 ⊢
  generalize (w2.alloc (.cells #[.slice Av nv cv] 66)) = w3 at HS2 HV2 HB2 HK2 HK6 s0 s1 n0 c4 f4 l4 lS l6 ⊢
  have HTP := hide ((arTop_any B gn gu gt A x w3.drew (HS2.out.ar.below (Below.refl _ _).drew (fun _ hk => HS2.out.ar.lt hk)) hx).mono (fun e w' hp => show e = .returned (.int .i64 (topA A x)) ∧ Below w3.heap.size w3 w' from ⟨hp.1, (Below.refl _ _).drew.trans hp.2⟩))
  have HDB := Lib.hid (fun (wt : World) (hb : Below w3.heap.size w3 wt) => double_any (.agg #[.slice Av nv cv]) N K (K : Int) wt (HV2.out.below hb) (by omega) hN ⟨by omega, by omega⟩)
  go_region_with (first
    | (go_at_call 18; refine (HTP.out).mono ?_; rintro e wt ⟨rfl, hbt⟩; have s0t := (hbt.cell (p := ⟨S, 0, none⟩) lS).trans s0; have s1t := (hbt.cell (p := ⟨S, 1, none⟩) lS).trans s1; have n0t := (hbt.cell (p := ⟨g6, 0, none⟩) l6).trans n0)
    | (go_at_call 41; refine (HDB.out _ hbt).mono ?_; rintro e wd ⟨vd, rfl, hvd, hbd⟩; obtain ⟨Ad, nd, cd, ed⟩ := hvd.form; subst ed; have hb4 := hbt.trans (hbd.mono hbt.size); have c4d := (hb4.cell (p := ⟨g4, 0, none⟩) l4).trans c4; have f4d := (hb4.frozen (p := ⟨g4, 0, none⟩) l4).trans f4))
  all_goals
    have HK9 := hide ((HK2.out.below hb4 l4).set_ 0 (.slice Ad nd cd))
    have d9 := HK9.out.cell 0
    have HV9 := hide (natV_set (u := .slice Ad nd cd) hvd (c4d) (fun i e => by cases e))
    have HB9 := hide ((HB2.out.trans (hb4.mono HB2.out.size)).setCell (p := ⟨g4, 0, none⟩) (by rw [HG.out]; exact Nat.le_refl _) (.slice Ad nd cd))
    clear hvd hb4 hbd hbt
    go_wp2
    exact bodyPost_ret (v := .tuple #[.agg #[.slice Ad nd cd], .nilIface]) (by simp [results, Tryd.results28, go_sem, d9]) rfl ⟨_, rfl, HV9.out, HB9.out⟩
end
end Go.Proofs.YtfbhmkpihmcegaaDoor
