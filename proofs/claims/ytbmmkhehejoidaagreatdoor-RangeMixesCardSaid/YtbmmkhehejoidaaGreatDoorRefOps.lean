/-
  The document's RangeOr, RangeAnd, RangeNot.
-/
import Derived.Test.YtbmmkhehejoidaaGreatDoorRefMixW
namespace Go.Proofs.YtbmmkhehejoidaaGreatDoor
open Go.RowKit

def RuleP (b : Bool) (W : World) (e : Ending) (w' : World) : Prop := e = .returned (.bool b) ∧ w' = W
theorem ruleOr_any (x y : Bool) (W : World) : Calls Tryz.prog 34 #[.bool x, .bool y] W (RuleP (x || y) W) := by
  cases x <;> cases y
  all_goals
    go_enter Tryz.func34, Tryz.ntmps34
    go_wp2
    go_ret
    exact ⟨rfl, rfl⟩
theorem ruleAnd_any (x y : Bool) (W : World) : Calls Tryz.prog 35 #[.bool x, .bool y] W (RuleP (x && y) W) := by
  cases x <;> cases y
  all_goals
    go_enter Tryz.func35, Tryz.ntmps35
    go_wp2
    go_ret
    exact ⟨rfl, rfl⟩
theorem ruleNot_any (x y : Bool) (W : World) : Calls Tryz.prog 36 #[.bool x, .bool y] W (RuleP (!x) W) := by
  cases x <;> cases y
  all_goals
    go_enter Tryz.func36, Tryz.ntmps36
    go_wp2
    go_ret
    exact ⟨rfl, rfl⟩
theorem enters_ruleOr : ∀ args w, (callFunc 34 args).run Tryz.prog w = .ok (.enter 34 args) w := enters_of Tryz.func34 (by kernel_rfl) rfl
theorem enters_ruleAnd : ∀ args w, (callFunc 35 args).run Tryz.prog w = .ok (.enter 35 args) w := enters_of Tryz.func35 (by kernel_rfl) rfl
theorem enters_ruleNot : ∀ args w, (callFunc 36 args).run Tryz.prog w = .ok (.enter 36 args) w := enters_of Tryz.func36 (by kernel_rfl) rfl
/-- The turns of a rule are the spans' that have what it tells. -/
theorem turns_can (g : Bool → Bool → Bool) {a b l : List (Nat × Nat)} (ha : CanF 0 a) (hb : CanF 0 b) (hl : CanF 0 l) (hs : ∀ n, n < endR → setS l n = g (setS a n) (setS b n)) :
    ∀ zs : List Nat, zs.Pairwise (· ≤ ·) → zs.Perm ([0, endR] ++ flat a ++ flat b) → turns (mixP g (flat a) (flat b)) false zs = flat l := by
  intro zs h1 h2
  obtain ⟨l', ht, hc, hq⟩ := mix_spec g a b ha hb zs h1 h2
  have e : l' = l := can_same _ _ 0 hc hl fun n _ hn => (hq n hn).trans (hs n hn).symm
  rw [ht, e]
theorem refOr_any (v1 v2 : Value) (a b : List (Nat × Nat)) (w : World) (h1 : OwnI w 0 v1 (flatI a)) (h2 : OwnI w 0 v2 (flatI b)) (ha : CanF 0 a) (hb : CanF 0 b) : Calls Tryz.prog 11 #[v1, v2] w (RrP w (orC a b)) := by
  have sp := or_spec ha hb
  have hm := mix_all (fun x y => x || y) _ v1 v2 a b w h1 h2 ha hb enters_ruleOr (fun x y W => ruleOr_any x y W) (orC a b) (turns_can _ ha hb sp.1 sp.2)
  clear sp
  go_enter Tryz.func11, Tryz.ntmps11
  go_wp2_with (go_at_call 33; refine hm.mono ?_; rintro e w9 ⟨v, rfl, ho, hb9⟩)
  go_ret
  exact ⟨_, rfl, ho, hb9⟩
theorem refAnd_any (v1 v2 : Value) (a b : List (Nat × Nat)) (w : World) (h1 : OwnI w 0 v1 (flatI a)) (h2 : OwnI w 0 v2 (flatI b)) (ha : CanF 0 a) (hb : CanF 0 b) : Calls Tryz.prog 12 #[v1, v2] w (RrP w (andC a b)) := by
  have sp := and_spec ha hb
  have hm := mix_all (fun x y => x && y) _ v1 v2 a b w h1 h2 ha hb enters_ruleAnd (fun x y W => ruleAnd_any x y W) (andC a b) (turns_can _ ha hb sp.1 sp.2)
  clear sp
  go_enter Tryz.func12, Tryz.ntmps12
  go_wp2_with (go_at_call 33; refine hm.mono ?_; rintro e w9 ⟨v, rfl, ho, hb9⟩)
  go_ret
  exact ⟨_, rfl, ho, hb9⟩
theorem refNot_any (v1 : Value) (a : List (Nat × Nat)) (w : World) (h1 : OwnI w 0 v1 (flatI a)) (ha : CanF 0 a) : Calls Tryz.prog 13 #[v1] w (RrP w (notC a)) := by
  have sp := not_spec ha
  have hn : CanF 0 [] := trivial
  have hm := mix_all (fun x _ => !x) _ v1 (.slice none 0 0) a [] w h1 (ownI_nil _ _) ha hn enters_ruleNot (fun x y W => ruleNot_any x y W) (notC a) (turns_can (fun x _ => !x) ha hn sp.1 sp.2)
  clear sp
  go_enter Tryz.func13, Tryz.ntmps13
  go_wp2_with (go_at_call 33; refine hm.mono ?_; rintro e w9 ⟨v, rfl, ho, hb9⟩)
  go_ret
  exact ⟨_, rfl, ho, hb9⟩
end Go.Proofs.YtbmmkhehejoidaaGreatDoor
