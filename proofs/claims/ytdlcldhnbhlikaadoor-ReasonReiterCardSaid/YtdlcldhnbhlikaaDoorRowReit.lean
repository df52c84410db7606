/-
  ReasonReiter: for every input the law returns true, and each argument reads as it read before; and its tied card. Conditions: none beyond the row's own (the listed package-level variables hold what the program's text lays).
-/
import Derived.Test.YtdlcldhnbhlikaaDoorLawReit
import Derived.Test.YtdlcldhnbhlikaaDoorRowFours
import Derived.Test.YtdlcldhnbhlikaaDoorCards
import Derived.Test.YtdlcldhnbhlikaaDoorTie
import Derived.SevenTiedAt
namespace Go.Proofs.YtdlcldhnbhlikaaDoor
open Go.ChangeShapes Go.WideShapes Go.ChangeAt Go.WideElems Go.RowKit Go.Deep

theorem cellsUint : Tryd.prog.cellsOf 22 = 1 := by kernel_rfl
set_option maxRecDepth 100000 in
/-- An argument '[]uint', opened. -/
theorem open_uints {H : Type} {enc : TypeId × Value → H} {W : World} {v : Value} {d : DataW H} {p : List MemPlace} {j : Nat} (hv : Value.okWide Tryd.prog W .any j 38 v) (h : DataW.Trod enc Tryd.prog W 0 (fun _ => true) true 38 v d p) :
    ∃ A n c zs, v = .slice A n c ∧ RowN W A n zs := by
  obtain ⟨a0, len, cap, rfl⟩ := okWide_slice Tryd.underlying38 hv
  obtain ⟨fuel, hf⟩ := h
  rcases open_ints Tryd.underlying38 Tryd.underlying22 cellsUint hf with ⟨hcs, _⟩ | ⟨a, len', cap', zs, hcs, _, hl, hm, hz, _, hcell, hw⟩
  · simp only [Value.cells, List.cons.injEq, and_true] at hcs
    cases hcs
    exact ⟨none, 0, 0, [], rfl, rfl, fun z hz => (by cases hz), Reads.none_⟩
  · simp only [Value.cells, List.cons.injEq, and_true] at hcs
    cases hcs
    have hzl : zs.length = cap := by simpa using hz
    refine ⟨some a, len, cap, (zs.take len).map Int.toNat, rfl, by rw [List.length_map, List.length_take]; omega, fun z hz => ?_, ?_⟩
    · obtain ⟨y, hy, rfl⟩ := List.mem_map.1 hz
      have := bounds_u64 (hw y (List.mem_of_mem_take hy))
      omega
    · refine reads_of_cells (by unfold uintsV; rw [List.length_map, List.length_map, List.length_take]; omega) fun k hk => ?_
      have hkz : k < zs.length := by omega
      have hb := bounds_u64 (hw zs[k] (List.getElem_mem hkz))
      refine ⟨.int .u64 (zs[k].toNat : Int), ?_, ?_⟩
      · unfold uintsV
        rw [List.getElem?_map, List.getElem?_map, List.getElem?_take_of_lt hk, List.getElem?_eq_getElem hkz]
        rfl
      · rw [Int.toNat_of_nonneg hb.1]
        have := hcell k (by simp at hz; omega)
        rw [List.getD_eq_getElem?_getD, List.getElem?_eq_getElem hkz] at this
        exact this
set_option maxRecDepth 100000 in
theorem reasonReiter_lifted (os : Os) (started : os.Started) (H : Type) (enc : TypeId × Value → H) :
    ReturnsInHanded {} Tryd.checked os 4 .any (fun w args => (Rows.reasonReiterSpec.pre enc Tryd.prog Tryd.f4 [] false w args ∧ laidMetH Tryd.prog laidE w) ∧ sizedMet enc Tryd.prog Tryd.f4 (OpenSpec.ofChange Rows.reasonReiterSpec) false w args)
      (Rows.reasonReiterSpec.post enc Tryd.prog Tryd.f4 false true false false) := by
  refine returnsInHanded_of_change_and (C := Tryd.checked) (X := fun w _ => laidMetH Tryd.prog laidE w) (fun _ _ _ hh h => h.of_heap hh) own started (by kernel_rfl) Tryd.func4
    (ChangeSpec.witness_shaped (enc := enc) (C := Tryd.checked) (os := os) (X := fun w _ => laidMetH Tryd.prog laidE w) false (World.doorLaid Tryd.prog 400 os) #[.int .i64 0, .slice none 0 0] 8 rfl (World.shaped_of_RefB (by kernel_rfl) (by kernel_rfl)) (by kernel_rfl) (by kernel_rfl) (by kernel_rfl) (door_metE os _)) ?_
  intro W base args ds gs before hval0 hW _ _ hL _
  have hval : ∀ (j : Nat) t v, Tryd.f4.params[j]? = some t → args[j]? = some v → Value.okWide Tryd.prog W .any base t v := hval0
  have hW' := hW
  obtain ⟨p, q, hA0, hV, rfl, hfz, hnd⟩ := hW
  have hA : DataW.TrodAll enc Tryd.prog W 0 (fun _ => true) true Tryd.f4.params.toList args.toList ds p := hA0
  rw [Tryd.params4] at hA hval
  obtain ⟨v0, v1, d0, d1, p0, p1, rfl, rfl, rfl, h0, h1⟩ := trodAll_two hA
  obtain ⟨x0, rfl, rfl, rfl, wx0⟩ := open_int Tryd.underlying3 (hval 0 3 v0 rfl rfl) h0
  obtain ⟨A1, n1, c1, zs, rfl, hS1⟩ := open_uints (hval 1 38 v1 rfl rfl) h1
  refine (lawReit_walk x0 A1 n1 c1 zs W (globE_of_laid hL) hS1).mono fun e W' ⟨he, hb⟩ => ?_
  subst he
  exact ⟨_, rfl, law_post (by kernel_rfl) (by kernel_rfl) rfl hW' rfl (by kernel_rfl) hb⟩

theorem reasonReiter_row : Rows.ReasonReiterSaid :=
  OpenClaim.holds_of_wide 4 Tryd.f4 rfl rfl rfl rfl rfl rfl rfl ⟨rfl, rfl, rfl, rfl, rfl⟩ rfl rfl rfl rfl rfl (by kernel_rfl) Tryd.func4 (by kernel_rfl)
    (of_decide_eq_true (by kernel_rfl)) (by unfold Func.isWrapper; first | (rw [if_pos (by decide +kernel)]; kernel_rfl) | (rw [if_neg (by decide +kernel)]; exact ⟨rfl, rfl⟩))
    (fun os started H enc _ => reasonReiter_lifted os started H enc)

theorem reasonReiter_card : Rows.ReasonReiterCardSaid :=
  Claim7.holds_tied_plain_at .later [] [.handle] true Rows.reasonReiterCard.stood.harness Rows.reasonReiterCard.stood.looks
    reasonReiter_row (fun _ h => by cases h) (by kernel_rfl) (fun _ h => by cases h) reasonReiter_row_tie rfl ⟨rfl, rfl⟩ (by kernel_rfl) rfl
    (fun f fn hf hfn => by
      obtain rfl : f = 4 := Option.some.inj ((show Tryd.prog.funcNamed Rows.reasonReiterRow.func = some 4 by kernel_rfl).symm.trans hf) |>.symm
      obtain rfl : fn = Tryd.f4 := (Option.some.inj (Tryd.func4.symm.trans hfn)).symm
      exact ⟨by kernel_rfl, fun j t ht => by
        rw [Tryd.params4] at ht
        have hm : t ∈ [3, 38] := by simpa using Array.mem_of_getElem? ht
        have hall : ([3, 38].all fun u => !Tryd.prog.wantsStandIn u) = true := by kernel_rfl
        exact (show Tryd.prog.wantsStandIn t = false by simpa using List.all_eq_true.1 hall t hm)⟩)
    (by kernel_rfl)
#print axioms reasonReiter_card
end Go.Proofs.YtdlcldhnbhlikaaDoor
