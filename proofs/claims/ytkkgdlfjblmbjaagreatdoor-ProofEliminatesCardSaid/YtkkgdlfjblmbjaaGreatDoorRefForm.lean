/-
  The reference's Form: tells 'formF'.
-/
import Derived.Test.YtkkgdlfjblmbjaaGreatDoorFormPure
import Derived.Test.YtkkgdlfjblmbjaaGreatDoorSolveM
namespace Go.Proofs.YtkkgdlfjblmbjaaGreatDoor
open Go.RowKit

def FormPost (w : World) (r : List Int × Bool) (e : Ending) (w' : World) : Prop := ∃ v, e = .returned (.tuple #[v, .bool r.2]) ∧ Own w' w.heap.size v r.1 ∧ Below w.heap.size w w'
structure FormI (w : World) (c : List Int) (k : Nat) (acc : List Int) (v : Value) (wi : World) : Prop where
  bel : Below w.heap.size w wi
  own : Own wi w.heap.size v acc
  go : acc ++ formGo c (25 - k) k = formGo c 24 1
  no : ∀ x ∈ c, x.natAbs < k → -x ∉ c
  len : acc.length < k

set_option maxRecDepth 100000 in
set_option maxHeartbeats 4000000 in
theorem refForm_any (A : Option Addr) (n c : Nat) (zs : List Int) (w : World) (h : Ints w w.heap.size A n zs) (hok : ∀ x ∈ zs, litOk x) :
    Calls Tryz.prog 24 #[.slice A n c] w (FormPost w (formF zs)) := by
  have HI := hide h
  have HOK := hide hok
  clear h hok
  go_enter Tryz.func24, Tryz.ntmps24
  go_wp2
  go_loopw [4, 5] (fun v i wr => ∃ (k : Nat) (acc : List Int), 1 ≤ k ∧ k ≤ 25 ∧ i = .int .i64 k ∧ Hid (FormI w zs k acc v wr)) (fun _ i _ => 25 - (intOf i).toNat)
  case atStart => exact ⟨1, [], Nat.le_refl _, by omega, rfl, hide ⟨Below.refl _ _, Own.nil _ _, rfl, fun x hx hk => by have := HOK.out x hx; rcases this with h | h <;> omega, by simp⟩⟩
  case round =>
    obtain ⟨k, acc, hk1, hk2, rfl, hF⟩ := hrel
    by_cases hlt : k ≤ 24
    · have HIW := hide ((HI.out.below hF.out.bel).more hF.out.bel.size)
      have H1 := hide (has_any (k : Int) A n c zs wr HIW.out)
      have H2 := hide (has_any (-(k : Int)) A n c zs wr HIW.out)
      have HG := hide (show acc ++ (formOne zs k ++ formGo zs (25 - (k + 1)) (k + 1)) = formGo zs 24 1 by rw [← hF.out.go, show 25 - k = (25 - (k + 1)) + 1 by omega]; rfl)
      have HNO := hide (fun (hh : ¬ ((k : Int) ∈ zs ∧ -(k : Int) ∈ zs)) (x : Int) (hx : x ∈ zs) (hxk : x.natAbs < k + 1) => show -x ∉ zs from by
        rcases Nat.lt_or_ge x.natAbs k with h | h
        · exact hF.out.no x hx h
        · intro hn
          rcases Int.natAbs_eq x with e | e
          · rw [show x.natAbs = k by omega] at e; rw [e] at hx hn; exact hh ⟨hx, hn⟩
          · rw [show x.natAbs = k by omega] at e; rw [e] at hx; rw [e, Int.neg_neg] at hn; exact hh ⟨hn, hx⟩)
      have hI64 : I64 (k : Int) := by unfold I64; omega
      have hI64' : I64 (-(k : Int)) := by unfold I64; omega
      have HXI := Lib.hid hI64
      have HXJ := Lib.hid hI64'
      clear hI64 hI64'
      have HLT := hide hF.out.own.lt
      have HLN := Lib.hid hF.out.len
      by_cases h1 : ((k : Int)) ∈ zs
      · rw [decide_eq_true h1] at H1
        by_cases h2 : -((k : Int)) ∈ zs
        · rw [decide_eq_true h2] at H2
          have HE := Lib.hid (formF_both (bothB_t h1 h2))
          clear h1 h2
          go_wp2_with fail
          refine (H1.out).mono ?_
          rintro e w' ⟨rfl, rfl⟩
          go_wp2_with fail
          refine (H2.out).mono ?_
          rintro e w' ⟨rfl, rfl⟩
          go_wp2
          go_ret2
          rw [HE.out]
          exact ⟨_, rfl, Own.nil _ _, hF.out.bel⟩
        · rw [decide_eq_false h2] at H2
          have HN2 := hide (HNO.out fun h => h2 h.2)
          have hone : formOne zs k = [(k : Int)] := by unfold formOne; rw [if_pos h1]
          have HG2 := Lib.hid (show (acc ++ [(k : Int)]) ++ formGo zs (25 - (k + 1)) (k + 1) = formGo zs 24 1 by rw [List.append_assoc, ← hone]; exact HG.out)
          clear h1 h2 hone
          have HOA := hide (hF.out.own.alloc (.cells #[.int .i64 (k : Int)] 3))
          have HCA := Lib.hid (show (wr.alloc (.cells #[.int .i64 (k : Int)] 3)).cell? ⟨wr.heap.size, 0, none⟩ = some (.int .i64 (k : Int)) by simp)
          have HBA := Lib.hid (show w.heap.size ≤ (wr.alloc (.cells #[.int .i64 (k : Int)] 3)).heap.size by have := hF.out.bel.size; simp; omega)
          go_wp2_with fail
          refine (H1.out).mono ?_
          rintro e w' ⟨rfl, rfl⟩
          go_wp2_with fail
          refine (H2.out).mono ?_
          rintro e w' ⟨rfl, rfl⟩
          go_wp2_with (at_builtin; refine app1 _ rfl _ _ 39 rfl w.heap.size Tryz.underlying39 _ acc rfl HOA.out wr.heap.size 1 (k : Int) rfl HCA.out HXI.out (by have := HLN.out; omega) HBA.out ?_; intro v1 w1 ho1 hg1 hor; have HO1 := hide ho1; have HG1 := hide hg1; clear ho1 hg1 hor)
          go_roundw
          case rel => exact ⟨k + 1, acc ++ [(k : Int)], by omega, by omega, by go_num, hide ⟨(hF.out.bel.alloc hF.out.bel.size _).grown HG1.out HBA.out (fun k hk => (HLT.out k hk).1), HO1.out, HG2.out, HN2.out, by have := HLN.out; rw [List.length_append, List.length_singleton]; omega⟩⟩
          case measure => simp [intOf]; omega
      · rw [decide_eq_false h1] at H1
        have HN2 := hide (HNO.out fun h => h1 h.1)
        by_cases h2 : -((k : Int)) ∈ zs
        · rw [decide_eq_true h2] at H2
          have hone : formOne zs k = [-(k : Int)] := by unfold formOne; rw [if_neg h1, if_pos h2]
          have HG2 := Lib.hid (show (acc ++ [-(k : Int)]) ++ formGo zs (25 - (k + 1)) (k + 1) = formGo zs 24 1 by rw [List.append_assoc, ← hone]; exact HG.out)
          clear h1 h2 hone
          have HOA := hide (hF.out.own.alloc (.cells #[.int .i64 (-(k : Int))] 3))
          have HCA := Lib.hid (show (wr.alloc (.cells #[.int .i64 (-(k : Int))] 3)).cell? ⟨wr.heap.size, 0, none⟩ = some (.int .i64 (-(k : Int))) by simp)
          have HBA := Lib.hid (show w.heap.size ≤ (wr.alloc (.cells #[.int .i64 (-(k : Int))] 3)).heap.size by have := hF.out.bel.size; simp; omega)
          go_wp2_with fail
          refine (H1.out).mono ?_
          rintro e w' ⟨rfl, rfl⟩
          go_wp2_with fail
          refine (H2.out).mono ?_
          rintro e w' ⟨rfl, rfl⟩
          go_wp2_with (at_builtin; refine app1 _ rfl _ _ 39 rfl w.heap.size Tryz.underlying39 _ acc rfl HOA.out wr.heap.size 1 (-(k : Int)) rfl HCA.out HXJ.out (by have := HLN.out; omega) HBA.out ?_; intro v1 w1 ho1 hg1 hor; have HO1 := hide ho1; have HG1 := hide hg1; clear ho1 hg1 hor)
          go_roundw
          case rel => exact ⟨k + 1, acc ++ [(-(k : Int))], by omega, by omega, by go_num, hide ⟨(hF.out.bel.alloc hF.out.bel.size _).grown HG1.out HBA.out (fun k hk => (HLT.out k hk).1), HO1.out, HG2.out, HN2.out, by have := HLN.out; rw [List.length_append, List.length_singleton]; omega⟩⟩
          case measure => simp [intOf]; omega
        · rw [decide_eq_false h2] at H2
          have hone : formOne zs k = [] := by unfold formOne; rw [if_neg h1, if_neg h2]
          have HG2 := Lib.hid (show acc ++ formGo zs (25 - (k + 1)) (k + 1) = formGo zs 24 1 by have := HG.out; rw [hone] at this; exact this)
          clear h1 h2 hone
          go_wp2_with fail
          refine (H1.out).mono ?_
          rintro e w' ⟨rfl, rfl⟩
          go_wp2_with fail
          refine (H2.out).mono ?_
          rintro e w' ⟨rfl, rfl⟩
          go_wp2
          go_roundw
          case rel => exact ⟨k + 1, acc, by omega, by omega, by go_num, hide ⟨hF.out.bel, hF.out.own, HG2.out, HN2.out, by have := HLN.out; omega⟩⟩
          case measure => simp [intOf]; omega
    · obtain rfl : k = 25 := by omega
      have HB := Lib.hid (formF_not (bothB_f fun x hx => hF.out.no x hx (by have := HOK.out x hx; rcases this with h | h <;> omega)))
      have HA := Lib.hid (show acc = formGo zs 24 1 by have := hF.out.go; rw [Nat.sub_self] at this; rw [← this]; exact (List.append_nil acc).symm)
      go_wp2
      go_ret2
      rw [HB.out, ← HA.out]
      exact ⟨_, rfl, hF.out.own, hF.out.bel⟩
end Go.Proofs.YtkkgdlfjblmbjaaGreatDoor
