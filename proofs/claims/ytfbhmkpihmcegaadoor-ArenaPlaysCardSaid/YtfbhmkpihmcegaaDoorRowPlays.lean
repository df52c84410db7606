/-
  ArenaPlays: for every input the law returns true, and each argument reads as it read before; and its tied card. Conditions: none beyond the row's own (the listed package-level variables hold what the program's text lays).
-/
import Derived.Test.YtfbhmkpihmcegaaDoorLawPlays
import Derived.Test.YtfbhmkpihmcegaaDoorRowFours
import Derived.Test.YtfbhmkpihmcegaaDoorGlobC
import Derived.Test.YtfbhmkpihmcegaaDoorCards
import Derived.Test.YtfbhmkpihmcegaaDoorTie
import Derived.SevenTiedAt
namespace Go.Proofs.YtfbhmkpihmcegaaDoor
open Go.ChangeShapes Go.WideShapes Go.ChangeAt Go.WideElems Go.RowKit Go.Deep

theorem dos_of {w : World} {A : Option Addr} {n : Nat} {q : Nat → Four} (h : FourP w A n q) : DoP w A n ((List.range n).map fun k => ⟨(q k).what, (q k).a, (q k).b, (q k).c⟩) := by
  refine ⟨by simp, fun d hd => ?_, fun hn => ?_⟩
  · obtain ⟨k, hk, rfl⟩ := List.mem_map.1 hd
    have := h.1 k (List.mem_range.1 hk)
    exact ⟨this.what, this.a, this.b, this.c⟩
  · obtain ⟨ad, e, hlt, hc⟩ := h.2 hn
    refine ⟨ad, e, hlt, fun k hk => ?_⟩
    rw [show ((List.range n).map fun k => (⟨(q k).what, (q k).a, (q k).b, (q k).c⟩ : Do4)).getD k do0 = ⟨(q k).what, (q k).a, (q k).b, (q k).c⟩ by simp [List.getD_eq_getElem?_getD, hk]]
    exact hc k hk

set_option maxRecDepth 100000 in
theorem arenaPlays_lifted (os : Os) (started : os.Started) (H : Type) (enc : TypeId × Value → H) :
    ReturnsInHanded {} Tryd.checked os 3 .any (fun w args => (Rows.arenaPlaysSpec.pre enc Tryd.prog Tryd.f3 [] false w args ∧ laidMetH Tryd.prog laidE w) ∧ sizedMet enc Tryd.prog Tryd.f3 (OpenSpec.ofChange Rows.arenaPlaysSpec) false w args)
      (Rows.arenaPlaysSpec.post enc Tryd.prog Tryd.f3 false true false false) := by
  refine returnsInHanded_of_change_and (C := Tryd.checked) (X := fun w _ => laidMetH Tryd.prog laidE w) (fun _ _ _ hh h => h.of_heap hh) own started (by kernel_rfl) Tryd.func3
    (ChangeSpec.witness_shaped (enc := enc) (C := Tryd.checked) (os := os) (X := fun w _ => laidMetH Tryd.prog laidE w) false (World.doorLaid Tryd.prog 400 os) #[.int .i64 0, .slice none 0 0] 8 rfl (World.shaped_of_RefB (by kernel_rfl) (by kernel_rfl)) (by kernel_rfl) (by kernel_rfl) (by kernel_rfl) (door_metE os _)) ?_
  intro W base args ds gs before hval0 hW _ _ hL _
  have hval : ∀ (j : Nat) t v, Tryd.f3.params[j]? = some t → args[j]? = some v → Value.okWide Tryd.prog W .any base t v := hval0
  have hW' := hW
  obtain ⟨p, q, hA0, hV, rfl, hfz, hnd⟩ := hW
  have hA : DataW.TrodAll enc Tryd.prog W 0 (fun _ => true) true Tryd.f3.params.toList args.toList ds p := hA0
  rw [Tryd.params3] at hA hval
  obtain ⟨v0, v1, d0, d1, p0, p1, rfl, rfl, rfl, h0, h1⟩ := trodAll_two hA
  obtain ⟨x0, rfl, rfl, rfl, wx0⟩ := open_int Tryd.underlying3 (hval 0 3 v0 rfl rfl) h0
  obtain ⟨A1, n1, c1, fs, rfl, hS1⟩ := open_fours Tryd.underlying22 Tryd.underlying35 (by kernel_rfl) ⟨rfl, rfl⟩ ⟨rfl, rfl⟩ ⟨rfl, rfl⟩ ⟨rfl, rfl⟩ (hval 1 22 v1 rfl rfl) h1
  refine (lawPlays_walk x0 A1 n1 c1 _ W (globE_of_laid hL) (bounds_i64 wx0) (dos_of hS1)).mono fun e W' ⟨he, hb⟩ => ?_
  subst he
  exact ⟨_, rfl, law_post (by kernel_rfl) (by kernel_rfl) rfl hW' rfl (by kernel_rfl) hb⟩

theorem arenaPlays_row : Rows.ArenaPlaysSaid :=
  OpenClaim.holds_of_wide 3 Tryd.f3 rfl rfl rfl rfl rfl rfl rfl ⟨rfl, rfl, rfl, rfl, rfl⟩ rfl rfl rfl rfl rfl (by kernel_rfl) Tryd.func3 (by kernel_rfl)
    (of_decide_eq_true (by kernel_rfl)) (by unfold Func.isWrapper; first | (rw [if_pos (by decide +kernel)]; kernel_rfl) | (rw [if_neg (by decide +kernel)]; exact ⟨rfl, rfl⟩))
    (fun os started H enc _ => arenaPlays_lifted os started H enc)

theorem arenaPlays_card : Rows.ArenaPlaysCardSaid :=
  Claim7.holds_tied_plain_at .later [] [.handle] true Rows.arenaPlaysCard.stood.harness Rows.arenaPlaysCard.stood.looks
    arenaPlays_row (fun _ h => by cases h) (by kernel_rfl) (fun _ h => by cases h) arenaPlays_row_tie rfl ⟨rfl, rfl⟩ (by kernel_rfl) rfl
    (fun f fn hf hfn => by
      obtain rfl : f = 3 := Option.some.inj ((show Tryd.prog.funcNamed Rows.arenaPlaysRow.func = some 3 by kernel_rfl).symm.trans hf) |>.symm
      obtain rfl : fn = Tryd.f3 := (Option.some.inj (Tryd.func3.symm.trans hfn)).symm
      exact ⟨by kernel_rfl, fun j t ht => by
        rw [Tryd.params3] at ht
        have hm : t ∈ [3, 22] := by simpa using Array.mem_of_getElem? ht
        have hall : ([3, 22].all fun u => !Tryd.prog.wantsStandIn u) = true := by kernel_rfl
        exact (show Tryd.prog.wantsStandIn t = false by simpa using List.all_eq_true.1 hall t hm)⟩)
    (by kernel_rfl)
#print axioms arenaPlays_card
end Go.Proofs.YtfbhmkpihmcegaaDoor
