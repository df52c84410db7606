/-
  ImageLoads: for every input the law returns true, and each argument reads as it read before; and its tied card. Conditions: none beyond the row's own (the listed package-level variables hold what the program's text lays).
-/
import Derived.Test.YtdlcldhnbhlikaaGreatDoorLawLoad
import Derived.Test.YtdlcldhnbhlikaaGreatDoorGlobL
import Derived.Test.YtdlcldhnbhlikaaGreatDoorRowFours
import Derived.Test.YtdlcldhnbhlikaaGreatDoorCards
import Derived.Test.YtdlcldhnbhlikaaGreatDoorTie
import Derived.SevenTiedAt
import Derived.Laws.BytesArg
namespace Go.Proofs.YtdlcldhnbhlikaaGreatDoor
open Go.ChangeShapes Go.WideShapes Go.ChangeAt Go.WideElems Go.RowKit Go.Deep

theorem conv_cells (w : World) (a : Addr) (len cap : Nat) (zs : List Int) (hz : zs.length = len) (hc : ∀ i, i < len → w.cell? (a.add i) = some (.int .u8 (zs.getD i 0))) :
    (convert 28 9 (.slice (some a) len cap)).run Tryz.prog w = .ok (.string (strOfNums zs)) w := by
  have hl : (loadCells a len).run Tryz.prog w = .ok (zs.map (Value.int .u8)).toArray w := by
    have := run_loadCells_list (P := Tryz.prog) w a (zs.map (Value.int .u8)) (fun j v hj => by
      have hjl : j < zs.length := by
        rcases Nat.lt_or_ge j zs.length with h | h
        · exact h
        · simp [List.getElem?_eq_none (show (zs.map (Value.int .u8)).length ≤ j by simpa using h)] at hj
      rw [hc j (by omega)]
      simp [List.getElem?_eq_getElem hjl] at hj
      subst hj
      simp [List.getD, List.getElem?_eq_getElem hjl])
    simpa [hz] using this
  rw [run_convert_bytes_string w 28 9 5 (some a) len cap Tryz.underlying28 Tryz.underlying5 Tryz.underlying9, run_bytesToString w a len cap zs hl, foldl_push_bytes]
  simp [strOfNums, ByteArray.empty, ByteArray.emptyWithCapacity]
  rfl
theorem cellsU8 : Tryz.prog.cellsOf 5 = 1 := by kernel_rfl
set_option maxRecDepth 100000 in
/-- An argument '[]byte', opened. -/
theorem open_bytes {H : Type} {enc : TypeId × Value → H} {W : World} {v : Value} {d : DataW H} {p : List MemPlace} {j : Nat} (hv : Value.okWide Tryz.prog W .any j 28 v) (h : DataW.Trod enc Tryz.prog W 0 (fun _ => true) true 28 v d p) :
    ∃ A n c s, v = .slice A n c ∧ s.size = n ∧ ∀ w', Below W.heap.size W w' → (convert 28 9 (.slice A n c)).run Tryz.prog w' = .ok (.string s) w' := by
  obtain ⟨a0, len, cap, rfl⟩ := okWide_slice Tryz.underlying28 hv
  obtain ⟨fuel, hf⟩ := h
  rcases open_ints Tryz.underlying28 Tryz.underlying5 cellsU8 hf with ⟨hcs, _⟩ | ⟨a, len', cap', zs, hcs, _, hl, hm, hz, _, hcell, hw⟩
  · simp only [Value.cells, List.cons.injEq, and_true] at hcs
    cases hcs
    exact ⟨none, 0, 0, ByteArray.empty, rfl, rfl, fun w' _ => run_convert_bytes_nil w' 28 5 Tryz.underlying28 Tryz.underlying5 0 0 9 Tryz.underlying9⟩
  · simp only [Value.cells, List.cons.injEq, and_true] at hcs
    cases hcs
    have hzl : zs.length = cap := by simpa using hz
    refine ⟨some a, len, cap, strOfNums (zs.take len), rfl, by rw [strOfNums_size, List.length_take]; omega, fun w' hb => conv_cells w' a len cap (zs.take len) (by rw [List.length_take]; omega) fun i hi => ?_⟩
    have hc := hcell i (by simp at hz; omega)
    have e : (zs.take len).getD i 0 = zs.getD i 0 := by
      rw [List.getD_eq_getElem?_getD, List.getD_eq_getElem?_getD, List.getElem?_take_of_lt hi]
    rw [e]
    exact (hb.cell (lt_of_cell hc)).trans hc
set_option maxRecDepth 100000 in
theorem imageLoads_lifted (os : Os) (started : os.Started) (H : Type) (enc : TypeId × Value → H) :
    ReturnsInHanded {} Tryz.checked os 6 .any (fun w args => (Rows.imageLoadsSpec.pre enc Tryz.prog Tryz.f6 [] false w args ∧ laidMetH Tryz.prog laidL w) ∧ sizedMet enc Tryz.prog Tryz.f6 (OpenSpec.ofChange Rows.imageLoadsSpec) false w args)
      (Rows.imageLoadsSpec.post enc Tryz.prog Tryz.f6 false true false false) := by
  refine returns_shaped (C := Tryz.checked) (X := fun w _ => laidMetH Tryz.prog laidL w) (fun _ _ _ hh h => h.of_heap hh) own started (by kernel_rfl) Tryz.func6
    (ChangeSpec.witness_shaped (enc := enc) (C := Tryz.checked) (os := os) (X := fun w _ => laidMetH Tryz.prog laidL w) false (startL os) #[.slice none 0 0, .int .i64 0] 8 rfl (World.shaped_of_RefB (by kernel_rfl) (by kernel_rfl)) (by kernel_rfl) (by kernel_rfl) (by kernel_rfl) (startL_met os _)) ?_
  intro W base args ds gs before hval0 hW _ hL hS
  have hval : ∀ (j : Nat) t v, Tryz.f6.params[j]? = some t → args[j]? = some v → Value.okWide Tryz.prog W .any base t v := hval0
  have hW' := hW
  obtain ⟨p, q, hA0, hV, rfl, hfz, hnd⟩ := hW
  have hA : DataW.TrodAll enc Tryz.prog W 0 (fun _ => true) true Tryz.f6.params.toList args.toList ds p := hA0
  rw [Tryz.params6] at hA hval
  obtain ⟨v0, v1, d0, d1, p0, p1, rfl, rfl, rfl, h0, h1⟩ := trodAll_two hA
  obtain ⟨A0, n0, c0, s0, rfl, hs0, hc0⟩ := open_bytes (hval 0 28 v0 rfl rfl) h0
  obtain ⟨x1, rfl, rfl, rfl, wx1⟩ := open_int Tryz.underlying3 (hval 1 3 v1 rfl rfl) h1
  have hb1 := bounds_i64 wx1
  refine (lawLoad_walk A0 n0 c0 s0 x1 W hs0 hc0 ⟨hb1.1, by have := hb1.2; omega⟩ (globV_of_laidL hL hS)).mono fun e W' ⟨he, hb⟩ => ?_
  subst he
  exact ⟨_, rfl, law_post (by kernel_rfl) (by kernel_rfl) rfl hW' rfl (by kernel_rfl) hb⟩

theorem imageLoads_row : Rows.ImageLoadsSaid :=
  OpenClaim.holds_of_wide 6 Tryz.f6 rfl rfl rfl rfl rfl rfl rfl ⟨rfl, rfl, rfl, rfl, rfl⟩ rfl rfl rfl rfl rfl (by kernel_rfl) Tryz.func6 (by kernel_rfl)
    (of_decide_eq_true (by kernel_rfl)) (by unfold Func.isWrapper; first | (rw [if_pos (by decide +kernel)]; kernel_rfl) | (rw [if_neg (by decide +kernel)]; exact ⟨rfl, rfl⟩))
    (fun os started H enc _ => imageLoads_lifted os started H enc)

theorem imageLoads_card : Rows.ImageLoadsCardSaid :=
  Claim7.holds_tied_plain_at .later [] [.data, .data, .data, .data, .handle, .sentinel, .sentinel, .sentinel, .pinned] true Rows.imageLoadsCard.stood.harness Rows.imageLoadsCard.stood.looks
    imageLoads_row (fun _ h => by cases h) (by kernel_rfl) (fun _ h => by cases h) imageLoads_row_tie rfl ⟨rfl, rfl⟩ (by kernel_rfl) rfl
    (fun f fn hf hfn => by
      obtain rfl : f = 6 := Option.some.inj ((show Tryz.prog.funcNamed Rows.imageLoadsRow.func = some 6 by kernel_rfl).symm.trans hf) |>.symm
      obtain rfl : fn = Tryz.f6 := (Option.some.inj (Tryz.func6.symm.trans hfn)).symm
      exact ⟨by kernel_rfl, fun j t ht => by
        rw [Tryz.params6] at ht
        have hm : t ∈ [28, 3] := by simpa using Array.mem_of_getElem? ht
        have hall : ([28, 3].all fun u => !Tryz.prog.wantsStandIn u) = true := by kernel_rfl
        exact (show Tryz.prog.wantsStandIn t = false by simpa using List.all_eq_true.1 hall t hm)⟩)
    (by kernel_rfl)
#print axioms imageLoads_card
end Go.Proofs.YtdlcldhnbhlikaaGreatDoor
