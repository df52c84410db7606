/-
  A part of the proof: PlanChg. Conditions: none.
-/
import Derived.Test.YtmncoldaemcnlaaGreatDoorOrPlanOrd
import Derived.Test.YtmncoldaemcnlaaGreatDoorOrBackIt
namespace Go.Proofs.YtmncoldaemcnlaaGreatDoor
open Go.RowKit Go.Shelf
open Classical
attribute [local go_sem] Oper.semAt_some
set_option maxRecDepth 100000
def elS : ElK (Nat × Bool) := ⟨101, 2, fun q => [.int .i64 (q.1 : Int), .bool q.2], by decide, fun _ => rfl, fun q u hu => by
 rcases List.mem_cons.1 hu with rfl | hu
 ·rfl
 ·rw [List.mem_singleton.1 hu]; rfl⟩
theorem stepSInfo : (Tryz.prog.info? 101).map (fun i => (i.zero, i.size, i.bytes)) = some (some (.agg #[.int .i64 0, .bool false]), 2, 16) := by kernel_rfl
def stI (q : Nat × Bool) : Int := if q.2 then (q.1 : Int) + 1 else -((q.1 : Int) + 1)
def ChgP (p : List Int × Int) (w : World) (e : Ending) (w' : World) : Prop := ∃ v l, e = .returned (.tuple #[v, ordE p.2]) ∧ OwnK elS w' w.heap.size v l ∧ l.map stI = p.1 ∧ Below w.heap.size w w'
def goS (tu : Nat) (a : List Nat) : List (Nat × Bool) := (goF tu a).map fun k => (k, false)
def comeS (frm : Nat) (b : List Nat) : List (Nat × Bool) := (comeF frm b).map fun k => (k, true)
theorem goS_st (tu : Nat) (a : List Nat) : (goS tu a).map stI = (goF tu a).map fun (k : Nat) => -((k : Int) + 1) := by unfold goS; rw [List.map_map]; rfl
theorem comeS_st (frm : Nat) (b : List Nat) : (comeS frm b).map stI = (comeF frm b).map fun (k : Nat) => (k : Int) + 1 := by unfold comeS; rw [List.map_map]; rfl
theorem goS_step (tu : Nat) (a : List Nat) {i : Nat} (h : i < a.length) : goS tu (a.drop i) = goS tu (a.drop (i + 1)) ++ if tu.testBit a[i] = true then [] else [(a[i], false)] := by
 unfold goS goF
 rw [List.drop_eq_getElem_cons h, List.reverse_cons, List.filter_append, List.map_append]
 congr 1
 cases e : tu.testBit a[i] <;> simp [e]
theorem comeS_step (frm : Nat) (b : List Nat) {i : Nat} (h : i < b.length) : comeS frm (b.take (i + 1)) = comeS frm (b.take i) ++ if frm.testBit b[i] = true then [] else [(b[i], true)] := by
 unfold comeS comeF
 rw [List.take_succ_eq_append_getElem h, List.filter_append, List.map_append]
 congr 1
 cases e : frm.testBit b[i] <;> simp [e]
theorem blk_add {w : World} {g : Nat} {t : TypeId} {cs : Array Value} (h : Blk w g t cs) (j : Nat) : w.cell? ((⟨g, 0, none⟩ : Addr).add j) = cs[j]? := by
 unfold Addr.add
 split
 ·rename_i h0
  rw [h0]
  exact h.cell 0
 ·have := h.cell j
  simpa using this
theorem ownK_app {α : Type} {E : ElK α} {w : World} {base : Nat} {v : Value} {l : List α} {q : α} (h : w.ownsRow base E.t E.K v (l.length + 1) (E.row l ++ E.f q)) : OwnK E w base v (l ++ [q]) := by
 unfold OwnK
 rw [List.length_append, List.length_singleton, E.row_app, E.row_one]
 exact h
def BackP (v : Value) (w : World) (e : Ending) (w' : World) : Prop := e = .returned (.func (.func 117) #[] #[.pointer (some ⟨w.heap.size, 0, none⟩)]) ∧ w' = w.alloc (.cells #[v] 24)
theorem back_any (A : Option Addr) (n c : Nat) (w : World) : Calls Tryz.prog 82 #[.slice A n c] w (BackP (.slice A n c) w) := by
 go_enter Tryz.func82, Tryz.ntmps82
 go_wp2_with fail
 exact bodyPost_ret (v := .func (.func 117) #[] #[.pointer (some ⟨w.heap.size, 0, none⟩)]) (by simp [results, Tryz.results82, go_sem]) rfl ⟨rfl, rfl⟩
structure ChI (ws : World) (bt bo bs tu : Nat) (v8 : Value) (a : List Nat) (i : Nat) (W : World) : Prop where
 kt : Blk W bt 47 #[.int .u64 (tu : Int)]
 kb : Blk W bs 24 #[v8]
 ra : OwnI W 0 v8 (natI a)
 rb : ∀ k, v8.ownBlock = some k → k < bo
 ko : ∃ vo, Blk W bo 97 #[vo] ∧ OwnK elS W (ws.heap.size + 2) vo (goS tu (a.drop i))
 fr : Fr (fun k => k = bo) ws W
 z : bt < bo ∧ bo < bs ∧ bs < ws.heap.size
section
variable {ws W W' : World} {bt bo bs tu i : Nat} {v8 : Value} {a : List Nat} {S : Nat → Prop}
theorem ownsRow_fro {w w' : World} {base s n : Nat} {e : TypeId} {v : Value} {xs : List Value} (h : w.ownsRow base e s v n xs) (hf : Fr S w w') (hs : ∀ k, v.ownBlock = some k → base ≤ k → ¬ S k) : w'.ownsRow base e s v n xs := by
 refine ⟨h.1, ?_⟩
 rcases h.2 with h2 | ⟨g, cap, cur, e1, hg, hgc, r⟩
 ·exact .inl h2
 ·exact .inr ⟨g, cap, cur, e1, hg, (hf.block g (Array.getElem?_eq_some_iff.1 hgc).1 (hs g (by rw [e1]; rfl) hg)).trans hgc, r⟩
theorem ChI.fr_ (h : ChI ws bt bo bs tu v8 a i W) (hf : Fr (fun k => k = ws.heap.size ∨ k = ws.heap.size + 1) W W') : ChI ws bt bo bs tu v8 a i W' := by
 have z := h.z
 obtain ⟨vo, k1, k2⟩ := h.ko
 exact ⟨h.kt.fr hf (by omega), h.kb.fr hf (by omega), ownsRow_fro h.ra hf (fun k e _ => by have := h.rb k e; omega), h.rb, ⟨vo, k1.fr hf (by omega), ownsRow_fro k2 hf (fun k _ hk => by omega)⟩, h.fr.and_ hf (fun k hk e => by omega), z⟩
theorem ChI.skip (h : ChI ws bt bo bs tu v8 a (i + 1) W) (hi : i < a.length) (hb : tu.testBit a[i] = true) : ChI ws bt bo bs tu v8 a i W := by
 obtain ⟨vo, k1, k2⟩ := h.ko
 refine ⟨h.kt, h.kb, h.ra, h.rb, ⟨vo, k1, ?_⟩, h.fr, h.z⟩
 rw [goS_step tu a hi, if_pos hb, List.append_nil]
 exact k2
theorem ChI.next {vo v9 : Value} {W9 : World} (h : ChI ws bt bo bs tu v8 a (i + 1) W) (hi : i < a.length) (hb : tu.testBit a[i] = false) (k1 : Blk W bo 97 #[vo]) (k2 : OwnK elS W (ws.heap.size + 2) vo (goS tu (a.drop (i + 1))))
  (ho : OwnK elS W9 (ws.heap.size + 2) v9 (goS tu (a.drop (i + 1)) ++ [(a[i], false)])) (hg : (W.alloc (.cells (elS.f (a[i], false)).toArray 101)).grownBy W9 vo.ownBlock) :
  ChI ws bt bo bs tu v8 a i (W9.setCell ⟨bo, 0, none⟩ v9) ∧ Fr (fun k => k = bo ∨ ws.heap.size + 2 ≤ k) W (W9.setCell ⟨bo, 0, none⟩ v9) := by
 have hal := (Below.refl W.heap.size W).alloc (Nat.le_refl _) (.cells (elS.f (a[i], false)).toArray 101)
 have z := h.z
 have hlt : ∀ k, vo.ownBlock = some k → ws.heap.size + 2 ≤ k := fun k e => (World.ownsRow.lt k2 k e).1
 have q1 : Fr (fun k => k = bo ∨ ws.heap.size + 2 ≤ k) W W9 := ((Fr.refl _ W).alloc _).grown hg (fun k e => .inr (hlt k e))
 have q2 : Fr (fun k => k = bo ∨ ws.heap.size + 2 ≤ k) W (W9.setCell ⟨bo, 0, none⟩ v9) := q1.set_ (p := ⟨bo, 0, none⟩) (.inl rfl) v9
 have kb9 : Blk W9 bo 97 #[vo] := (k1.below hal k1.lt).grown hg (fun e => by have := hlt bo e.symm; omega)
 refine ⟨⟨h.kt.fr q2 (by omega), h.kb.fr q2 (by omega), ownsRow_fro h.ra q2 (fun k e _ => by have := h.rb k e; omega), h.rb, ⟨v9, kb9.set_ 0 v9, ?_⟩, (h.fr.and_ q2 (fun k hk e => by omega)), z⟩, q2⟩
 rw [goS_step tu a hi, if_neg (by rw [hb]; exact fun e => Bool.noConfusion e)]
 exact ownsRow_fro (S := fun k => k = bo) ho ((Fr.refl (fun k => k = bo) W9).set_ (p := ⟨bo, 0, none⟩) rfl v9) (fun k _ hk => by omega)
end
set_option maxHeartbeats 8000000 in
theorem change_any (g base : Nat) (qs : List LnQ) (its0 : List ItR) (frm tu : Nat) (w : World) (h : CatO w base g qs) (hc : catR (qs.map (·.1)) = .inr its0) (hs : frm < 18446744073709551616) (ht : tu < 18446744073709551616) :
  Calls Tryz.prog 39 #[.pointer (some ⟨g, 0, none⟩), .int .u64 (frm : Int), .int .u64 (tu : Int)] w (ChgP (changeF (itemsF (qs.map (·.1))) (qs.map (·.1)) frm tu) w) := by
 have hal := (Below.refl w.heap.size w).alloc (Nat.le_refl _) (.cells #[.int .u64 (tu : Int)] 47)
 have HO1 := hide (order_any g base qs its0 frm (w.alloc (.cells #[.int .u64 (tu : Int)] 47)) (h.below hal) hc hs)
 have HO2 := hide (fun W (h : CatO W base g qs) => order_any g base qs its0 tu W h hc ht)
 obtain ⟨h24, _⟩ := catR_few hc
 have HC := hide h
 have HB := hide hal
 have HK := hide (Blk.new w 47 #[.int .u64 (tu : Int)])
 have HZ := Lib.hid (show (w.alloc (.cells #[.int .u64 (tu : Int)] 47)).heap.size = w.heap.size + 1 by simp)
 unfold OrderP at HO1 HO2
 have hof := orderF_in (its := itemsF (qs.map (·.1))) (ls := qs.map (·.1)) (set := frm)
 have hot := orderF_in (its := itemsF (qs.map (·.1))) (ls := qs.map (·.1)) (set := tu)
 obtain ⟨p, hp⟩ : ∃ p, changeF (itemsF (qs.map (·.1))) (qs.map (·.1)) frm tu = p := ⟨_, rfl⟩
 rw [hp]
 unfold changeF at hp
 generalize orderF (itemsF (qs.map (·.1))) (qs.map (·.1)) frm = pf at HO1 hof hp
 generalize orderF (itemsF (qs.map (·.1))) (qs.map (·.1)) tu = pt at HO2 hot hp
 generalize (itemsF (qs.map (·.1))).length = n at h24 hof hot
 obtain ⟨a, ea⟩ := pf
 obtain ⟨b, eb⟩ := pt
 simp only [] at HO1 HO2 hof hot hp
 have HP := Lib.hid hp
 clear h hc hal hp
 refine (callsIn_wide (n := 4)).1 ?_
 refine callsIn_of_wp_marks Tryz.func39 rfl trivial ?_ rfl
 simp only [Tryz.ntmps39, List.size_toArray, List.length_cons, List.length_nil, Nat.reduceAdd, Nat.reduceSub, Array.replicate_succ, Array.replicate_zero, List.push_toArray, List.append_toArray, List.nil_append, List.cons_append]
 gi_wp2_with fail
 generalize w.alloc (.cells #[.int .u64 (tu : Int)] 47) = w0 at HO1 HB HK HZ ⊢
 refine ⟨trivial, ?_⟩
 refine (callsIn_wide.2 HO1.out).mono ?_
 rintro e w1 ⟨va, rfl, hoa, hb1⟩
 have HB1 := hide (HB.out.trans (hb1.mono HB.out.size))
 have HK1 := hide (HK.out.below hb1 HK.out.lt)
 have HA1 := hide (hoa.mono (Nat.zero_le _))
 clear hoa hb1 HO1 HB HK
 by_cases hea : ea = 0
 ·subst hea
  have hE : ordE 0 = .nilIface := rfl
  have k0 := HK1.out.cell 0
  rw [hE]
  gi_wp2_with fail
  refine ⟨trivial, ?_⟩
  refine (callsIn_wide.2 (HO2.out _ (HC.out.below HB1.out))).mono ?_
  rintro e w2 ⟨vb, rfl, hob, hb2⟩
  have HB2 := hide (HB1.out.trans (hb2.mono HB1.out.size))
  have HK2 := hide (HK1.out.below hb2 HK1.out.lt)
  have HA2 := hide (HA1.out.below hb2)
  have HV2 := hide (hob.mono (Nat.zero_le _))
  clear hob hb2 HO2 HB1 HK1 HA1 k0
  by_cases heb : eb = 0
  ·subst heb
   rw [hE]
   have HPE := Lib.hid (show p = (stepsI (goF tu a) (comeF frm b), 0) by rw [← HP.out]; rfl)
   obtain ⟨Aa, ca, rfl⟩ := HA2.out.len
   obtain ⟨Ab, cb, rfl⟩ := HV2.out.len
   gi_wp2_with (refine ⟨trivial, ?_⟩; gi_at_call 82; refine (callsIn_wide.2 (back_any _ _ _ _)).mono ?_; rintro e w9 ⟨rfl, rfl⟩)
   obtain ⟨ws, hws⟩ : ∃ ws, ws = (w2.alloc (.cells #[.slice none 0 0] 97)).alloc (.cells #[.slice Aa (natI a).length ca] 24) := ⟨_, rfl⟩
   have hal := ((Below.refl w2.heap.size w2).alloc (Nat.le_refl _) (.cells #[.slice none 0 0] 97)).alloc (by simp) (.cells #[.slice Aa (natI a).length ca] 24)
   have kbs := Blk.new (w2.alloc (.cells #[.slice none 0 0] 97)) 24 #[.slice Aa (natI a).length ca]
   have kbo := (Blk.new w2 97 #[.slice none 0 0]).alloc (.cells #[.slice Aa (natI a).length ca] 24)
   have hzs : ws.heap.size = w2.heap.size + 2 := by rw [hws]; simp
   rw [← hws] at hal kbs kbo ⊢
   rw [World.size_alloc] at kbs
   have hI0 : ChI ws w.heap.size w2.heap.size (w2.heap.size + 1) tu (.slice Aa (natI a).length ca) a (natI a).length ws :=
    ⟨HK2.out.below hal HK2.out.lt, kbs, HA2.out.below hal, fun k e => (World.ownsRow.lt HA2.out k e).2, ⟨_, kbo, by rw [natI_len, List.drop_length]; exact ownK_nil _ _ _⟩, Fr.refl _ _, ⟨HK2.out.lt, by omega, by omega⟩⟩
   have HW2 := Lib.hid (show w.heap.size ≤ w2.heap.size from HB2.out.size)
   have HBS := hide (HB2.out.trans (hal.mono HB2.out.size))
   have HVB := Lib.hid (show ∀ k, (Value.slice Ab (natI b).length cb).ownBlock = some k → k < ws.heap.size ∧ k ≠ w2.heap.size from fun k e => ⟨Nat.lt_of_lt_of_le (World.ownsRow.lt HV2.out k e).2 hal.size, Nat.ne_of_lt (World.ownsRow.lt HV2.out k e).2⟩)
   have HV3 := hide (HV2.out.below hal)
   obtain ⟨i0, hi0, hz0, hz1, hz2⟩ := info_parts stepSInfo
   clear hws hal kbs kbo HB2 HK2 HA2 HV2
   refine wpIn_backward (n := 4) (w2.heap.size + 1) (.slice Aa (natI a).length ca) (natI a) rfl (by rw [natI_len]; omega) (by omega) rfl (fun k => k = w2.heap.size ∨ ws.heap.size + 2 ≤ k) (fun k hk => by omega)
    (fun i => ChI ws w.heap.size w2.heap.size (w2.heap.size + 1) tu (.slice Aa (natI a).length ca) a i) (fun i A B h hf => h.fr_ hf) (fun i A h => ⟨h.kb, h.ra⟩) hI0
    (fun i x => { tmps := #[Value.pointer (some ⟨g, 0, none⟩), Value.int IntKind.u64 (frm : Int), Value.int IntKind.u64 (tu : Int), undef, undef, Value.pointer (some ⟨w.heap.size, 0, none⟩), Value.slice none 0 0, Value.nilIface, Value.slice Aa (natI a).length ca, Value.nilIface, Value.slice Ab (natI b).length cb, Value.pointer (some ⟨w2.heap.size, 0, none⟩), undef, Value.int IntKind.i64 x, undef, undef, Value.tuple #[Value.slice Aa (natI a).length ca, Value.nilIface], Value.pointer (some ⟨g, 0, none⟩), Value.int IntKind.u64 (frm : Int), Value.tuple #[Value.slice Aa (natI a).length ca, Value.nilIface], Value.slice Aa (natI a).length ca, Value.nilIface, Value.nilIface, Value.bool false, undef, Value.tuple #[Value.slice Ab (natI b).length cb, Value.nilIface], Value.pointer (some ⟨g, 0, none⟩), Value.int IntKind.u64 (tu : Int), Value.tuple #[Value.slice Ab (natI b).length cb, Value.nilIface], Value.slice Ab (natI b).length cb, Value.nilIface, Value.nilIface, Value.bool false, undef, Value.slice Aa (natI a).length ca, Value.func (Fn.func 117) #[] #[Value.pointer (some ⟨w2.heap.size + 1, 0, none⟩)], Value.int IntKind.i64 i, Value.int IntKind.i64 x, undef, undef, undef, undef, undef, undef, undef, undef, undef, undef, undef, undef, undef, undef, undef, undef, undef, undef, undef, undef, undef, undef, undef, undef, undef, undef], defers := [] }) ?assign ?body ?done
   case assign =>
    intro l i x W K hK
    gi_wp2
    exact hK
   case body =>
    intro l i W hi hI hsz
    have hia : i < a.length := by rw [natI_len] at hi; exact hi
    have hx : (natI a)[i] = ((a[i] : Nat) : Int) := List.getElem_map ..
    rw [hx]
    have hain := hof.1 _ (List.getElem_mem hia)
    have HSK := Lib.hid (hI.skip hia)
    have HNX := Lib.hid (fun vo v9 W9 => hI.next (vo := vo) (v9 := v9) (W9 := W9) hia)
    obtain ⟨vo, k1, k2⟩ := hI.ko
    generalize a[i] = x at hain HSK HNX
    have y5 := hI.kt.cell 0
    have y11 := k1.cell 0
    have f11 := k1.frozen 0
    have HHA := hide (planHas_any tu x W ht (by omega))
    unfold HasP at HHA
    cases hb : tu.testBit x with
    | true =>
     rw [hb] at HHA
     have HS2 := hide (HSK.out hb)
     clear HNX hx hI k1 k2
     gi_wp2_with fail
     refine ⟨trivial, ?_⟩
     refine (CallsIn.inRound l (callsIn_wide.2 HHA.out)).mono ?_
     rintro e w9 ⟨rfl, rfl⟩
     gi_wp2_with fail
     exact ⟨Fr.refl _ _, HS2.out⟩
    | false =>
     rw [hb] at HHA
     have HN2 := Lib.hid (fun v9 W9 => HNX.out vo v9 W9 hb k1 k2)
     obtain ⟨Ao, co, rfl, _⟩ := k2.len
     have hal := (Below.refl W.heap.size W).alloc (Nat.le_refl _) (.cells (elS.f (x, false)).toArray 101)
     have hgl : (goS tu (a.drop (i + 1))).length ≤ 1000000 := by
      unfold goS goF
      rw [List.length_map]
      refine Nat.le_trans (List.length_filter_le _ _) ?_
      rw [List.length_reverse, List.length_drop]
      have := hof.2
      omega
     have HGL := Lib.hid hgl
     have K2 := hide (k2.below hal)
     have K1 := hide ((k1.below hal k1.lt))
     have KX := hide (Blk.new W 101 (elS.f (x, false)).toArray)
     have HS2 := Lib.hid (show ws.heap.size + 2 ≤ (W.alloc (.cells (elS.f (x, false)).toArray 101)).heap.size by simp; omega)
     have HBO := Lib.hid (show ∀ k, (Value.slice Ao (goS tu (a.drop (i + 1))).length co).ownBlock = some k → k ≠ w2.heap.size from fun k e => by have := (World.ownsRow.lt k2 k e).1; omega)
     clear HNX hx hI k1 k2 HSK hal hgl
     gi_wp2_with fail
     refine ⟨trivial, ?_⟩
     refine (CallsIn.inRound l (callsIn_wide.2 HHA.out)).mono ?_
     rintro e w9 ⟨rfl, rfl⟩
     gi_wp2_with (gi_at_builtin; refine wpListIn_append_own _ rfl _ _ _ rfl (ws.heap.size + 2) 101 i0 (.agg #[.int .i64 0, .bool false]) 2 16 Tryz.underlying97 hi0 hz0 hz1 hz2 rfl (by decide) _ (goS tu (a.drop (i + 1))).length (elS.row (goS tu (a.drop (i + 1)))) rfl K2.out ⟨w9.heap.size, 0, none⟩ 1 1 (elS.f (x, false)) rfl rfl (fun j u hj => (blk_add KX.out j).trans (by rw [List.getElem?_toArray]; exact hj)) (elS.one (x, false)) (by have := HGL.out; simp only [maxLen]; omega) (by have := HGL.out; omega) HS2.out ?_; intro v9 w8 ho9 hg9 _; have HO9 := hide (ownK_app (E := elS) (q := (x, false)) ho9); obtain ⟨A9, d9, e9, _⟩ := HO9.out.len; subst e9; have HG9 := hide hg9; have k9 := K1.out.grown hg9 (fun e => HBO.out _ e.symm rfl); have c9 := k9.cell 0; have f9 := k9.frozen 0; clear ho9 hg9 k9)
     obtain ⟨h8, h9⟩ := HN2.out _ _ HO9.out HG9.out
     have hln : (goS tu (a.drop (i + 1)) ++ [(x, false)]).length = (goS tu (a.drop (i + 1))).length + 1 := by simp
     rw [hln] at h8 h9
     exact ⟨h9, h8⟩
   case done =>
    intro W h hsz2 hd
    rw [hzs]
    obtain ⟨vo, k1, k2⟩ := h.ko
    have HD := Lib.hid hd
    have HRB := hide (ownsRow_fro HV3.out h.fr (fun k e _ => (HVB.out k e).2))
    have HK1 := hide k1
    have HK2 := hide k2
    have HFW := hide h.fr
    have HS2 := Lib.hid hsz2
    clear h hd k1 k2 HV3
    gi_wp2_with fail
    gi_loopw [49] (fun iv wr => ∃ (i : Nat) (vo : Value), i ≤ b.length ∧ iv = .int .i64 i ∧ Hid (Blk wr w2.heap.size 97 #[vo]) ∧ Hid (OwnK elS wr (ws.heap.size + 2) vo (goS tu a ++ comeS frm (b.take i))) ∧ Hid (Fr (fun k => k = w2.heap.size ∨ ws.heap.size + 2 ≤ k) W wr)) (fun iv _ => b.length - (intOf iv).toNat)
    case atStart => exact ⟨0, vo, Nat.zero_le _, rfl, HK1, hide (by rw [show comeS frm (b.take 0) = [] from rfl, List.append_nil]; exact HK2.out), hide (Fr.refl _ _)⟩
    case round =>
     clear HK1 HK2
     obtain ⟨i, vo, hi, rfl, HK1, HK2, HF⟩ := hrel
     by_cases hlt : i < b.length
     ·have hltz : (i : Int) < ((natI b).length : Int) := by rw [natI_len]; omega
      obtain ⟨gb, capb, cur, e9, _, hkb, _, hcb⟩ := OwnI.form (ownsRow_fro HRB.out HF.out (fun k e _ => by have := HVB.out k e; omega)) (by rw [natI_len]; omega)
      injection e9 with e1 e2 e3
      subst e1
      have hx : (natI b)[i]'(by rw [natI_len]; exact hlt) = ((b[i] : Nat) : Int) := List.getElem_map ..
      have y0 := (hkb.cell i).trans (hcb i (by rw [natI_len]; exact hlt))
      rw [List.getD_eq_getElem?_getD, List.getElem?_eq_getElem (by rw [natI_len]; exact hlt), Option.getD_some, hx] at y0
      have hbin := hot.1 _ (List.getElem_mem hlt)
      have hst := comeS_step frm b hlt
      generalize b[i] = x at y0 hbin hst
      have HHA := hide (planHas_any frm x wr hs (by omega))
      unfold HasP at HHA
      clear hx hkb hcb e2 e3
      cases hb : frm.testBit x with
      | true =>
       rw [hb] at HHA
       rw [if_pos hb, List.append_nil] at hst
       have HST := Lib.hid hst
       clear hst
       have HKN := hide (show OwnK elS wr (ws.heap.size + 2) vo (goS tu a ++ comeS frm (b.take (i + 1))) by rw [HST.out]; exact HK2.out)
       clear hb
       gi_wp2_with fail
       refine ⟨trivial, ?_⟩
       refine (callsIn_wide.2 HHA.out).mono ?_
       rintro e w9 ⟨rfl, rfl⟩
       gi_wp2_with fail
       go_roundw
       case rel => exact ⟨i + 1, vo, by omega, by go_num, HK1, HKN, HF⟩
       case measure => simp [intOf]; omega
      | false =>
       rw [hb] at HHA
       rw [if_neg (by rw [hb]; exact fun e => Bool.noConfusion e)] at hst
       have HST := Lib.hid hst
       clear hst
       obtain ⟨Ao, co, rfl, _⟩ := HK2.out.len
       obtain ⟨cl, HCL⟩ : ∃ cl, Hid (goS tu a ++ comeS frm (b.take i) = cl) := ⟨_, Lib.hid rfl⟩
       rw [HCL.out] at HK1 HK2
       have hal := (Below.refl wr.heap.size wr).alloc (Nat.le_refl _) (.cells (elS.f (x, true)).toArray 101)
       have HGL := Lib.hid (show cl.length ≤ 1000000 by
        rw [← HCL.out, List.length_append]
        have h1 : (goS tu a).length ≤ a.length := by
         unfold goS goF
         rw [List.length_map]
         refine Nat.le_trans (List.length_filter_le _ _) ?_
         rw [List.length_reverse]
         exact Nat.le_refl _
        have h2 : (comeS frm (b.take i)).length ≤ b.length := by
         unfold comeS comeF
         rw [List.length_map]
         refine Nat.le_trans (List.length_filter_le _ _) ?_
         rw [List.length_take]
         omega
        have := hof.2
        have := hot.2
        omega)
       have K2 := hide (HK2.out.below hal)
       have K1 := hide (HK1.out.below hal HK1.out.lt)
       have y1 := HK1.out.cell 0
       have KX := hide (Blk.new wr 101 (elS.f (x, true)).toArray)
       have HSW := Lib.hid (show ws.heap.size + 2 ≤ wr.heap.size from Nat.le_trans HS2.out HF.out.size)
       have HS3 := Lib.hid (show ws.heap.size + 2 ≤ (wr.alloc (.cells (elS.f (x, true)).toArray 101)).heap.size by simp; have := HSW.out; omega)
       have HBO := Lib.hid (show ∀ k, (Value.slice Ao cl.length co).ownBlock = some k → k ≠ w2.heap.size from fun k e => by have := (World.ownsRow.lt HK2.out k e).1; omega)
       have HFA := hide (HF.out.alloc (.cells (elS.f (x, true)).toArray 101))
       clear hal hb
       gi_wp2_with fail
       refine ⟨trivial, ?_⟩
       refine (callsIn_wide.2 HHA.out).mono ?_
       rintro e w9 ⟨rfl, rfl⟩
       gi_wp2_with (gi_at_builtin; refine wpListIn_append_own _ rfl _ _ _ rfl (ws.heap.size + 2) 101 i0 (.agg #[.int .i64 0, .bool false]) 2 16 Tryz.underlying97 hi0 hz0 hz1 hz2 rfl (by decide) _ cl.length (elS.row cl) rfl K2.out ⟨w9.heap.size, 0, none⟩ 1 1 (elS.f (x, true)) rfl rfl (fun j u hj => (blk_add KX.out j).trans (by rw [List.getElem?_toArray]; exact hj)) (elS.one (x, true)) (by have := HGL.out; simp only [maxLen]; omega) (by have := HGL.out; omega) HS3.out ?_; intro v9 w8 ho9 hg9 _; have HO9 := hide (ownK_app (E := elS) (q := (x, true)) ho9); obtain ⟨A9, d9, e9, _⟩ := HO9.out.len; subst e9; have HF9 := hide (HFA.out.grown hg9 (fun k e => .inr (World.ownsRow.lt K2.out k e).1)); have HK9 := hide (K1.out.grown hg9 (fun e => HBO.out _ e.symm rfl)); have c9 := HK9.out.cell 0; have f9 := HK9.out.frozen 0; clear ho9 hg9)
       have hln : (cl ++ [(x, true)]).length = cl.length + 1 := by simp
       rw [hln] at HO9
       have HKN := hide (HK9.out.set_ 0 (.slice A9 (cl.length + 1) d9))
       have HON := hide (show OwnK elS (w8.setCell ⟨w2.heap.size, 0, none⟩ (.slice A9 (cl.length + 1) d9)) (ws.heap.size + 2) (.slice A9 (cl.length + 1) d9) (goS tu a ++ comeS frm (b.take (i + 1))) by
        rw [HST.out, ← List.append_assoc, HCL.out]
        exact ownsRow_fro HO9.out ((Fr.refl (fun k => k = w2.heap.size) w8).set_ (p := ⟨w2.heap.size, 0, none⟩) rfl _) (fun k _ hk => by omega))
       have HFN := hide (HF9.out.set_ (p := ⟨w2.heap.size, 0, none⟩) (.inl rfl) (.slice A9 (cl.length + 1) d9))
       clear HO9 HF9 HK9 c9 f9 K1 K2 KX HFA
       go_roundw
       case rel => exact ⟨i + 1, _, by omega, by go_num, HKN, HON, HFN⟩
       case measure => simp [intOf]; omega
     ·have hltz : ¬ (i : Int) < ((natI b).length : Int) := by rw [natI_len]; omega
      obtain ⟨Ao, co, rfl, _⟩ := HK2.out.len
      have y0 := HK1.out.cell 0
      have HTK := Lib.hid (show b.take i = b from List.take_of_length_le (by omega))
      rw [HTK.out] at HK1 HK2 y0
      have HDR := Lib.hid (show wr.heap[w2.heap.size + 2]? = some (.deferred (some [])) by
       rw [← hzs]
       exact (HF.out.block _ (by have := HS2.out; omega) (by omega)).trans HD.out)
      have hgp := fr_putObj (S := fun k => k = w2.heap.size + 2) wr (.deferred none) rfl
      have HOE := hide (show OwnK elS (wr.putObj (w2.heap.size + 2) (.deferred none)) w.heap.size (.slice Ao (goS tu a ++ comeS frm b).length co) (goS tu a ++ comeS frm b) from (show OwnK elS (wr.putObj (w2.heap.size + 2) (.deferred none)) (ws.heap.size + 2) _ _ from ownsRow_fro HK2.out hgp (fun k _ hk => by omega)).mono (by have := HBS.out.size; omega))
      have HBE := hide (HBS.out.trans (((HFW.out.and_ HF.out (fun k h1 h2 => by omega)).and_ hgp (fun k h1 h2 => by omega)).to_below HBS.out.size (fun k hk h9 => by have := HW2.out; omega)))
      gi_wp2_with fail
      refine ⟨by simp, .inl ⟨_, _, rfl, run_takeDeferred HDR.out, ?_⟩⟩
      exact ⟨.tuple #[.slice Ao (goS tu a ++ comeS frm b).length co, .nilIface], by simp [results, Tryz.f39, go_sem], _, _, by rw [HPE.out]; rfl, HOE.out, by rw [List.map_append, goS_st, comeS_st, HPE.out]; rfl, HBE.out⟩
  ·have hE2 : ordE eb = .iface 28 (.int .i64 eb) := if_neg heb
   have HPE := Lib.hid (show p = ([], eb) by rw [← HP.out, if_neg (by simp), if_pos heb])
   rw [hE2]
   gi_wp2_with fail
   exact ⟨.tuple #[.slice none 0 0, .iface 28 (.int .i64 eb)], by simp [results, Tryz.f39, go_sem], _, [], by rw [HPE.out, ← hE2], ownK_nil _ _ _, by rw [HPE.out]; rfl, HB2.out⟩
 ·have hE2 : ordE ea = .iface 28 (.int .i64 ea) := if_neg hea
  have HPE := Lib.hid (show p = ([], ea) by rw [← HP.out, if_pos hea])
  rw [hE2]
  gi_wp2_with fail
  exact ⟨.tuple #[.slice none 0 0, .iface 28 (.int .i64 ea)], by simp [results, Tryz.f39, go_sem], _, [], by rw [HPE.out, ← hE2], ownK_nil _ _ _, by rw [HPE.out]; rfl, HB1.out⟩
end Go.Proofs.YtmncoldaemcnlaaGreatDoor
