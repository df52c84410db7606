/-
  The document's Reach: the walk, by a function that calls itself.
-/
import Derived.Test.YtfbhmkpihmcegaaDoorRefAr
namespace Go.Proofs.YtfbhmkpihmcegaaDoor
open Go.RowKit Go.Maps

theorem top_child {A : Ar} (hw : WfA A) {x : Int} {n : Nd} (e : gotA A x = some n) : topA A x = n.var ∧ n.var < topA A n.low ∧ n.var < topA A n.high :=
  ⟨by unfold topA; rw [e], (hw.low x n e).2, (hw.high x n e).2⟩
set_option maxRecDepth 100000 in
set_option maxHeartbeats 4000000 in
theorem walk_none (R gm b0 b5 b6 gs : Nat) (A : Ar) (l : List Int) (x : Int) (w : World) (seen : List Bool) (todo : List Int) (hx : I64 x) (hM : WkM w R gm b0 b5 b6 gs A)
    (hS : MapS w gs (seenF seen) (seen.countP id)) (hI : SeenI A l seen (todo ++ [x])) (hg : gotA A x = none) :
    Calls Tryd.prog 65 #[.int .i64 x, .pointer (some ⟨b0, 0, none⟩), .pointer (some ⟨b5, 0, none⟩), .pointer (some ⟨b6, 0, none⟩)] w (WalkPost w gs A l todo) := by
  have a0 := hM.k0.cell 0
  have b1 := hM.r.kR.cell 1
  have HMP := hide hM.r.map
  have HS2 := hide (hI.skip (fun n e => by rw [hg] at e; cases e))
  have HS := hide hS
  clear hM hS hI
  go_enter Tryd.func65, Tryd.ntmps65
  go_wp2_with (at_lookup; refine lookN_ok rfl _ _ 31 rfl Tryd.underlying31 rfl HMP.out x rfl hx ?_; rw [hg, nodeV_none])
  (try simp only [Exit.inBlock, Exit.then]); refine bodyPost_ret (results_none rfl _ _ _) rfl ?_
  have hb := (Below.refl w.heap.size w).alloc (Nat.le_refl _) (.cells #[.int .i64 0, .int .i64 0, .int .i64 0] 42)
  exact ⟨rfl, seen, HS.out.same (hb.block gs HS.out.lt), HS2.out, fr_below hb⟩
set_option maxRecDepth 100000 in
set_option maxHeartbeats 4000000 in
theorem walk_seen (R gm b0 b5 b6 gs : Nat) (A : Ar) (l : List Int) (x : Int) (n : Nd) (w : World) (seen : List Bool) (todo : List Int) (hx : I64 x) (hM : WkM w R gm b0 b5 b6 gs A)
    (hS : MapS w gs (seenF seen) (seen.countP id)) (hI : SeenI A l seen (todo ++ [x])) (hg : gotA A x = some n) (hs : seenF seen x = true) :
    Calls Tryd.prog 65 #[.int .i64 x, .pointer (some ⟨b0, 0, none⟩), .pointer (some ⟨b5, 0, none⟩), .pointer (some ⟨b6, 0, none⟩)] w (WalkPost w gs A l todo) := by
  have a0 := hM.k0.cell 0
  have a5 := hM.k5.cell 0
  have l5 := hM.k5.lt
  have b1 := hM.r.kR.cell 1
  have HMP := hide hM.r.map
  have HS2 := hide (hI.skip (fun n _ => by unfold seenF at hs; simp at hs; rw [List.getD_eq_getElem?_getD]; exact hs.2))
  have HS := hide hS
  have hb := (Below.refl w.heap.size w).alloc (Nat.le_refl _) (.cells #[.int .i64 n.var, .int .i64 n.low, .int .i64 n.high] 42)
  have HB := hide hb
  have HSA := hide (hS.same (hb.block gs hS.lt))
  have a5' := (hb.cell (p := ⟨b5, 0, none⟩) l5).trans a5
  clear hM hS hI hb
  go_enter Tryd.func65, Tryd.ntmps65
  go_wp2_with (first
    | (at_lookup; refine lookN_ok rfl _ _ 31 rfl Tryd.underlying31 rfl HMP.out x rfl hx ?_; rw [hg, nodeV_some])
    | (at_lookup; refine lookS rfl _ _ 108 rfl Tryd.underlying108 rfl HSA.out x rfl hx ?_; rw [hs]))
  (try simp only [Exit.inBlock, Exit.then]); refine bodyPost_ret (results_none rfl _ _ _) rfl ?_
  exact ⟨rfl, seen, HSA.out, HS2.out, fr_below HB.out⟩
set_option maxRecDepth 100000 in
set_option maxHeartbeats 4000000 in
theorem walk_new (R gm b0 b5 b6 gs : Nat) (A : Ar) (l : List Int) (x : Int) (n : Nd) (w : World) (seen : List Bool) (todo : List Int) (hx : I64 x) (hM : WkM w R gm b0 b5 b6 gs A)
    (hS : MapS w gs (seenF seen) (seen.countP id)) (hI : SeenI A l seen (todo ++ [x])) (hg : gotA A x = some n) (hs : seenF seen x = false)
    (ih : ∀ (y : Int) (w' : World) (seen' : List Bool) (todo' : List Int), (y = n.low ∨ y = n.high) → WkM w' R gm b0 b5 b6 gs A → MapS w' gs (seenF seen') (seen'.countP id) → SeenI A l seen' (todo' ++ [y]) →
      Calls Tryd.prog 65 #[.int .i64 y, .pointer (some ⟨b0, 0, none⟩), .pointer (some ⟨b5, 0, none⟩), .pointer (some ⟨b6, 0, none⟩)] w' (WalkPost w' gs A l todo')) :
    Calls Tryd.prog 65 #[.int .i64 x, .pointer (some ⟨b0, 0, none⟩), .pointer (some ⟨b5, 0, none⟩), .pointer (some ⟨b6, 0, none⟩)] w (WalkPost w gs A l todo) := by
  have a0 := hM.k0.cell 0
  have b1 := hM.r.kR.cell 1
  have HMP := hide hM.r.map
  have HM := hide hM
  obtain ⟨k, rfl, hk, _⟩ := gotA_is hg
  have hkn : ((k : Int) + 2 - 2).toNat = k := by omega
  have HS2 := hide (hI.mark hg)
  rw [hkn] at HS2
  have hsl := hI.len
  have hsk : seen.getD k false = false := by rw [seenF_k] at hs; exact hs
  have hF := Lib.hid (seenF_set (seen := seen) (k := k) (by rw [hsl]; exact hk))
  have hC := Lib.hid (ons_set (by rw [hsl]; exact hk) hsk)
  have hle : seen.countP id ≤ 4000 := by
    have h1 := List.countP_le_length (p := id) (l := seen)
    have h2 := hM.r.room
    omega
  have hb := (Below.refl w.heap.size w).alloc (Nat.le_refl _) (.cells #[.int .i64 n.var, .int .i64 n.low, .int .i64 n.high] 42)
  have HB := hide hb
  have HSA := hide (hS.same (hb.block gs hS.lt))
  have a5 := (hb.cell (p := ⟨b5, 0, none⟩) hM.k5.lt).trans (hM.k5.cell 0)
  have HIH := hide ih
  have hgs := hS.lt
  have HL := hide (Blk.new w 42 #[.int .i64 n.var, .int .i64 n.low, .int .i64 n.high])
  have hMA := hM.fr hS (fr_below hb)
  have HMA := hide hMA
  clear hM hS hI hb ih
  go_enter Tryd.func65, Tryd.ntmps65
  go_wp2_with (first
    | (at_lookup; refine lookN_ok rfl _ _ 31 rfl Tryd.underlying31 rfl HMP.out _ rfl hx ?_; rw [show gotA A ((k : Int) + 2) = some n from by assumption, nodeV_some])
    | (at_lookup; refine lookS rfl _ _ 108 rfl Tryd.underlying108 rfl HSA.out _ rfl hx ?_; rw [hs])
    | (at_mapUpdate; refine storeS rfl _ _ _ 108 rfl Tryd.underlying108 rfl HSA.out _ rfl rfl hx hs (by omega) ?_; intro w2 hs2 hg2; rw [← hF.out, ← hC.out] at hs2; have HS3 := hide hs2; have HF2 := hide (Fr.grown (Fr.refl (fun k => k = gs) _) hg2 (fun k e => by cases e; rfl)); have HM2 := hide (HMA.out.fr HSA.out HF2.out); have c6 := HM2.out.k6.cell 0; have HL2 := hide (HL.out.fr HF2.out (Nat.ne_of_gt hgs)); have n1 := HL2.out.cell 1; clear hs2 hg2)
    | fail)
  refine (HIH.out n.low w2 _ (todo ++ [n.high]) (.inl rfl) HM2.out HS3.out (HS2.out.mem (fun y hy => by simp at hy ⊢; rcases hy with h | h | h <;> simp [h]) (fun y hy => by simp at hy ⊢; rcases hy with h | h | h <;> simp [h]))).mono ?_
  rintro e w3 ⟨rfl, seen3, hs3, hi3, hf3⟩
  have HS4 := hide hs3
  have HI4 := hide hi3
  have HF4 := hide (HF2.out.trans hf3)
  have HM4 := hide (HM2.out.fr HS3.out hf3)
  have d6 := HM4.out.k6.cell 0
  have n2 := (HL2.out.fr hf3 (Nat.ne_of_gt hgs)).cell 2
  clear hs3 hi3 hf3 c6 n1
  go_wp2_with fail
  refine (HIH.out n.high w3 _ todo (.inr rfl) HM4.out HS4.out HI4.out).mono ?_
  rintro e w5 ⟨rfl, seen5, hs5, hi5, hf5⟩
  have HF6 := hide ((fr_below HB.out).trans (HF4.out.trans hf5))
  have HFIN := hide (And.intro hs5 hi5)
  clear hs5 hi5 hf5 d6 n2
  go_wp2
  (try simp only [Exit.inBlock, Exit.then]); refine bodyPost_ret (results_none rfl _ _ _) rfl ?_
  exact ⟨rfl, seen5, HFIN.out.1, HFIN.out.2, HF6.out⟩

theorem walk_any (R gm b0 b5 b6 gs : Nat) (A : Ar) (l : List Int) : ∀ (d : Nat) (x : Int) (w : World) (seen : List Bool) (todo : List Int), 24 - topA A x ≤ (d : Int) → I64 x → WkM w R gm b0 b5 b6 gs A →
    MapS w gs (seenF seen) (seen.countP id) → SeenI A l seen (todo ++ [x]) →
    Calls Tryd.prog 65 #[.int .i64 x, .pointer (some ⟨b0, 0, none⟩), .pointer (some ⟨b5, 0, none⟩), .pointer (some ⟨b6, 0, none⟩)] w (WalkPost w gs A l todo) := by
  intro d
  induction d with
  | zero =>
    intro x w seen todo hd hx hM hS hI
    cases hg : gotA A x with
    | none => exact walk_none R gm b0 b5 b6 gs A l x w seen todo hx hM hS hI hg
    | some n =>
      have h1 := (top_child hM.r.wf hg).1
      have h2 := (hM.r.wf.var x n hg).2
      omega
  | succ d ih =>
    intro x w seen todo hd hx hM hS hI
    cases hg : gotA A x with
    | none => exact walk_none R gm b0 b5 b6 gs A l x w seen todo hx hM hS hI hg
    | some n =>
      cases hs : seenF seen x with
      | true => exact walk_seen R gm b0 b5 b6 gs A l x n w seen todo hx hM hS hI hg hs
      | false =>
        refine walk_new R gm b0 b5 b6 gs A l x n w seen todo hx hM hS hI hg hs fun y w' seen' todo' hy hM' hS' hI' => ?_
        obtain ⟨t1, t2, t3⟩ := top_child hM.r.wf hg
        obtain ⟨i1, i2⟩ := node_small hM.r.wf hM.r.room hg
        rcases hy with e | e
        · subst e; exact ih _ w' seen' todo' (by omega) i1 hM' hS' hI'
        · subst e; exact ih _ w' seen' todo' (by omega) i2 hM' hS' hI'
end Go.Proofs.YtfbhmkpihmcegaaDoor
