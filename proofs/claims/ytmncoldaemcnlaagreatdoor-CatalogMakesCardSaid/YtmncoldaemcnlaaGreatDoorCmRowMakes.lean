/-
  Makes: for every input the law returns true, and each argument reads as it read before; and its tied card. Conditions: none beyond the row's own (the listed package-level variables hold what the program's text lays).
-/
import Derived.Test.YtmncoldaemcnlaaGreatDoorCmLawMakes
import Derived.Test.YtmncoldaemcnlaaGreatDoorCmGlobK
import Derived.Test.YtmncoldaemcnlaaGreatDoorCards
import Derived.Test.YtmncoldaemcnlaaGreatDoorTie
import Derived.SevenTiedAt
import Derived.Deep.Strs
import Derived.Lib.SmallJoins
import Derived.Laws.IdiomArrays
import Derived.SizedLaws
namespace Go.Proofs.YtmncoldaemcnlaaGreatDoor
open Go.ChangeShapes Go.WideShapes Go.ChangeAt Go.WideElems Go.RowKit Go.Deep
theorem add_fldM (ad : Addr) (k j : Nat) (hj : 0 < j) : (⟨(ad.add k).block, (ad.add k).off + j, none⟩ : Addr) = ad.add (k + j) := by
 unfold Addr.add
 rw [if_neg (show ¬ k + j = 0 by omega)]
 split
 ·rename_i h; rw [h, Nat.zero_add]
 ·simp only [Nat.add_assoc]
theorem cellsStrM : Tryz.prog.cellsOf 9 = 1 := by kernel_rfl
theorem cellsIntM : Tryz.prog.cellsOf 3 = 1 := by kernel_rfl
theorem cellsVerM : Tryz.prog.cellsOf 33 = 3 := by kernel_rfl
theorem cellsRawM : Tryz.prog.cellsOf 129 = 7 := by kernel_rfl
theorem bytesRawM : Tryz.prog.bytesOf 129 = 80 := by kernel_rfl
set_option maxRecDepth 100000 in
theorem open_raws {H : Type} {enc : TypeId × Value → H} {W : World} {v : Value} {d : DataW H} {p : List MemPlace} {j : Nat} (hv : Value.okWide Tryz.prog W .any j 72 v) (h : DataW.Trod enc Tryz.prog W 0 (fun _ => true) true 72 v d p) :
  ∃ A n c q, v = .slice A n c ∧ RawP W A n q ∧ (n = 0 ∨ ∃ elems spare, d = .slice elems spare ∧ elems.length = n) := by
 obtain ⟨a0, len, cap, rfl⟩ := okWide_slice Tryz.underlying72 hv
 obtain ⟨fuel, hf⟩ := h
 rcases open_slice Tryz.underlying72 hf with ⟨hcs, _⟩ | ⟨a, len', cap', m, n, D, Pl, hcs, _, hlc, hcm, hmm, hxx, hx⟩
 ·simp only [Value.cells, List.cons.injEq, and_true] at hcs
  cases hcs
  exact ⟨none, 0, 0, fun _ => ⟨0, ⟨#[]⟩, fun _ => 0, ⟨#[]⟩, ⟨#[]⟩⟩, rfl, ⟨fun k hk => absurd hk (Nat.not_lt_zero k), fun h => absurd h (Nat.lt_irrefl _)⟩, .inl rfl⟩
 ·simp only [Value.cells, List.cons.injEq, and_true] at hcs
  cases hcs
  simp only [if_true] at hmm
  have each : ∀ i, i < len → ∃ q : RwR, RwOk q ∧ W.cell? (a.add (i * 7)) = some (.int .i64 q.k) ∧ W.cell? (a.add (i * 7 + 1)) = some (.string q.name) ∧ W.cell? (a.add (i * 7 + 2)) = some (.int .i64 (q.ver 0)) ∧ W.cell? (a.add (i * 7 + 3)) = some (.int .i64 (q.ver 1)) ∧
    W.cell? (a.add (i * 7 + 4)) = some (.int .i64 (q.ver 2)) ∧ W.cell? (a.add (i * 7 + 5)) = some (.string q.other) ∧ W.cell? (a.add (i * 7 + 6)) = some (.string q.tx) := by
   intro i hi
   obtain ⟨cs', h1, h2⟩ := hx i (by omega)
   rw [cellsRawM] at h1
   obtain ⟨_, hlen, hcell⟩ := World.cells?_some h1
   obtain ⟨xs, n', _, _, _, hxl, hfl⟩ := DataW.trod_struct Tryz.underlying129 h2
   match cs', hlen, xs, hxl with
   | [v0, v1, v2, v3, v4, v5, v6], _, [y0, y1, y2, y3, y4], _ =>
     have g0 : DataW.trod enc Tryz.prog W 0 (fun _ => true) true n' 3 (List.take (Tryz.prog.cellsOf 3) (List.drop 0 [v0, v1, v2, v3, v4, v5, v6])) = some y0 := hfl 0 _ rfl
     have g1 : DataW.trod enc Tryz.prog W 0 (fun _ => true) true n' 9 (List.take (Tryz.prog.cellsOf 9) (List.drop 1 [v0, v1, v2, v3, v4, v5, v6])) = some y1 := hfl 1 _ rfl
     have g2 : DataW.trod enc Tryz.prog W 0 (fun _ => true) true n' 33 (List.take (Tryz.prog.cellsOf 33) (List.drop 2 [v0, v1, v2, v3, v4, v5, v6])) = some y2 := hfl 2 _ rfl
     have g3 : DataW.trod enc Tryz.prog W 0 (fun _ => true) true n' 9 (List.take (Tryz.prog.cellsOf 9) (List.drop 5 [v0, v1, v2, v3, v4, v5, v6])) = some y3 := hfl 3 _ rfl
     have g4 : DataW.trod enc Tryz.prog W 0 (fun _ => true) true n' 9 (List.take (Tryz.prog.cellsOf 9) (List.drop 6 [v0, v1, v2, v3, v4, v5, v6])) = some y4 := hfl 4 _ rfl
     rw [cellsIntM] at g0
     rw [cellsStrM] at g1 g3 g4
     rw [cellsVerM] at g2
     simp only [List.drop_zero, List.drop_succ_cons, List.take_succ_cons, List.take_zero] at g0 g1 g2 g3 g4
     obtain ⟨z0, e0, _, w0⟩ := DataW.trod_int Tryz.underlying3 g0
     obtain ⟨s1, e1, _, w1⟩ := DataW.trod_string Tryz.underlying9 g1
     obtain ⟨t0, t1, t2, n2, _, k0, k1, k2⟩ := trod_array3 Tryz.underlying33 cellsIntM g2
     obtain ⟨a2, e2, _, w2⟩ := DataW.trod_int Tryz.underlying3 k0
     obtain ⟨b2, e3, _, w3⟩ := DataW.trod_int Tryz.underlying3 k1
     obtain ⟨c2, e4, _, w4⟩ := DataW.trod_int Tryz.underlying3 k2
     obtain ⟨s5, e5, _, w5⟩ := DataW.trod_string Tryz.underlying9 g3
     obtain ⟨s6, e6, _, w6⟩ := DataW.trod_string Tryz.underlying9 g4
     simp at e0 e1 e2 e3 e4 e5 e6
     subst e0 e1 e2 e3 e4 e5 e6
     have c0 := hcell 0 (by omega)
     have c1 := hcell 1 (by omega)
     have c2' := hcell 2 (by omega)
     have c3 := hcell 3 (by omega)
     have c4 := hcell 4 (by omega)
     have c5 := hcell 5 (by omega)
     have c6 := hcell 6 (by omega)
     rw [add_add] at c0 c1 c2' c3 c4 c5 c6
     have b0 := bounds_i64 w2
     have b1 := bounds_i64 w3
     have b3 := bounds_i64 w4
     exact ⟨⟨z0, s1, fun k => if k = 0 then a2 else if k = 1 then b2 else c2, s5, s6⟩, ⟨bounds_i64 w0, fun k hk => by
      rcases (show k = 0 ∨ k = 1 ∨ k = 2 by omega) with rfl | rfl | rfl
      ·exact b0
      ·exact b1
      ·exact b3, w1, w5, w6⟩, by simpa using c0, by simpa using c1, by simpa using c2', by simpa using c3, by simpa using c4, by simpa using c5, by simpa using c6⟩
  obtain ⟨q, hq⟩ := choose_lt each
  refine ⟨some a, len, cap, q, rfl, ⟨fun k hk => (hq k hk).1, fun hn => ⟨a, rfl, ?_, fun k hk => ?_⟩⟩, .inr ?_⟩
  ·have := lt_of_cell (hq 0 hn).2.1
   rw [block_of_add] at this
   exact this
  ·obtain ⟨_, c0, c1, c2, c3, c4, c5, c6⟩ := hq k hk
   rw [← add_fldM a (k * 7) 1 (by omega)] at c1
   rw [← add_fldM a (k * 7) 2 (by omega)] at c2
   rw [← add_fldM a (k * 7) 3 (by omega)] at c3
   rw [← add_fldM a (k * 7) 4 (by omega)] at c4
   rw [← add_fldM a (k * 7) 5 (by omega)] at c5
   rw [← add_fldM a (k * 7) 6 (by omega)] at c6
   exact ⟨c0, c1, c2, c3, c4, c5, c6⟩
  ·exact ⟨_, _, (congrArg Prod.fst hxx), by simp⟩
set_option maxRecDepth 100000 in
theorem catalogMakes_lifted (os : Os) (started : os.Started) (H : Type) (enc : TypeId × Value → H) :
  ReturnsInHanded {} Tryz.checked os 6 .any (fun w args => (Rows.catalogMakesSpec.pre enc Tryz.prog Tryz.f6 [] false w args ∧ laidMetH Tryz.prog laidC w) ∧ sizedMet enc Tryz.prog Tryz.f6 (OpenSpec.ofChange Rows.catalogMakesSpec) false w args)
   (Rows.catalogMakesSpec.post enc Tryz.prog Tryz.f6 false true false false) := by
 refine returns_shaped (C := Tryz.checked) (X := fun w _ => laidMetH Tryz.prog laidC w) (fun _ _ _ hh h => h.of_heap hh) own started (by kernel_rfl) Tryz.func6
  (ChangeSpec.witness_shaped (enc := enc) (C := Tryz.checked) (os := os) (X := fun w _ => laidMetH Tryz.prog laidC w) false (startC os) #[.slice none 0 0] 8 rfl (World.shaped_of_RefB (by kernel_rfl) (by kernel_rfl)) (by kernel_rfl) (by kernel_rfl) (by kernel_rfl) (startC_met os _)) ?_
 intro W base args ds gs before hval0 hW hsz0 hL hS
 have hval : ∀ (j : Nat) t v, Tryz.f6.params[j]? = some t → args[j]? = some v → Value.okWide Tryz.prog W .any base t v := hval0
 have hW' := hW
 obtain ⟨p, q, hA0, hV, rfl, hfz, hnd⟩ := hW
 have hA : DataW.TrodAll enc Tryz.prog W 0 (fun _ => true) true Tryz.f6.params.toList args.toList ds p := hA0
 rw [Tryz.params6] at hA hval
 obtain ⟨v0, d0, rfl, rfl, h0⟩ := trodAll_one hA
 obtain ⟨A0, n0, c0, rs0, rfl, hr0, hd0⟩ := open_raws (hval 0 72 v0 rfl rfl) h0
 rw [Tryz.params6] at hsz0
 have hn0 : n0 ≤ 1759218604441 := by
  rcases hd0 with rfl | ⟨el, sp, rfl, hl⟩
  ·omega
  ·have h9 : (el.length + sp.length) * Tryz.prog.bytesOf 129 ≤ reachBytes := sized_slice hsz0 (j := 0) (t := 72) (e := 129) rfl rfl Tryz.underlying72
   rw [bytesRawM] at h9
   simp only [reachBytes] at h9
   omega
 have hgl := globV_of_laidC hL hS
 refine (lawMakes_walk A0 n0 c0 rs0 W hgl.1 hgl.2.1 hgl.2.2 hr0 hn0).mono fun e W' ⟨he, hb⟩ => ?_
 subst he
 exact ⟨_, rfl, law_post (by kernel_rfl) (by kernel_rfl) rfl hW' rfl (by kernel_rfl) hb⟩
theorem catalogMakes_row : Rows.CatalogMakesSaid :=
 OpenClaim.holds_of_wide 6 Tryz.f6 rfl rfl rfl rfl rfl rfl rfl ⟨rfl, rfl, rfl, rfl, rfl⟩ rfl rfl rfl rfl rfl (by kernel_rfl) Tryz.func6 (by kernel_rfl)
  (of_decide_eq_true (by kernel_rfl)) (by unfold Func.isWrapper; first | (rw [if_pos (by decide +kernel)]; kernel_rfl) | (rw [if_neg (by decide +kernel)]; exact ⟨rfl, rfl⟩))
  (fun os started H enc _ => catalogMakes_lifted os started H enc)
theorem catalogMakes_card : Rows.CatalogMakesCardSaid :=
 Claim7.holds_tied_plain_at .later [] [.data, .data, .data, .data, .handle, .sentinel, .sentinel, .data, .data, .pinned] true Rows.catalogMakesCard.stood.harness Rows.catalogMakesCard.stood.looks
  catalogMakes_row (fun _ h => by cases h) (by kernel_rfl) (fun _ h => by cases h) catalogMakes_row_tie rfl ⟨rfl, rfl⟩ (by kernel_rfl) rfl
  (fun f fn hf hfn => by
   obtain rfl : f = 6 := Option.some.inj ((show Tryz.prog.funcNamed Rows.catalogMakesRow.func = some 6 by kernel_rfl).symm.trans hf) |>.symm
   obtain rfl : fn = Tryz.f6 := (Option.some.inj (Tryz.func6.symm.trans hfn)).symm
   exact ⟨by kernel_rfl, fun j t ht => by
    rw [Tryz.params6] at ht
    have hm : t ∈ [72] := by simpa using Array.mem_of_getElem? ht
    have hall : ([72].all fun u => !Tryz.prog.wantsStandIn u) = true := by kernel_rfl
    exact (show Tryz.prog.wantsStandIn t = false by simpa using List.all_eq_true.1 hall t hm)⟩)
  (by kernel_rfl)
end Go.Proofs.YtmncoldaemcnlaaGreatDoor
