/-
  What one more node, and a sweep, make of an arena of functions. No program in sight.
-/
import Derived.Test.YtfbhmkpihmcegaaDoorBddCnt
import Derived.Test.YtfbhmkpihmcegaaDoorArenaMake
namespace Go.Proofs.YtfbhmkpihmcegaaDoor

/-- An arena of functions of so many variables. -/
structure SpA (A : Ar) (vars : Int) : Prop where
  wf : WfA A
  red : RedA A
  var : VarA A vars
  len : A.length = 4000
/-- So many nodes of the first three variables may a step at a variable make. -/
def wt (t : Int) : Nat := if t ≤ 0 then 7 else if t = 1 then 3 else if t = 2 then 1 else 0
theorem wt_le (t : Int) : wt t ≤ 7 := by unfold wt; repeat' split
                                         all_goals omega
theorem wt_two {t a b : Int} (h0 : 0 ≤ t) (ha : t < a) (hb : t < b) : wt a + wt b + (if t < 3 then 1 else 0) ≤ wt t := by
  unfold wt
  repeat' split
  all_goals omega
/-- A step from one arena to another that has all of it, and this handle. -/
structure StpA (A A' : Ar) (vars : Int) (c : Nat) (t h : Int) (f : (Int → Bool) → Bool) : Prop where
  sp : SpA A' vars
  ext : ExtA A A'
  few : low3 A' ≤ low3 A + c
  has : hasA A' h = true
  top : t ≤ topA A' h
  den : ∀ v, den A' h v = f v
theorem SpA.same {A A' : Ar} {vars vars' : Int} (h : SpA A vars) (h' : SpA A' vars') (hx : ExtA A A') {x : Int} (p : hasA A x = true) (v : Int → Bool) : den A' x v = den A x v := hx.same h.wf h'.wf p
theorem low3_set {A : Ar} {k : Nat} {n : Nd} (hk : k < A.length) : low3 (A.set k (some n)) ≤ low3 A + (if n.var < 3 then 1 else 0) := by
  have hget : ∀ j, (A.set k (some n)).getD j none = if k = j ∧ k < A.length then some n else A.getD j none := fun j => getD_set
  unfold low3
  by_cases h3 : n.var < 3
  · rw [if_pos h3]
    have := inj_len (f := id) (atV (A.set k (some n)) (fun x => decide (x < 3))) (k :: atV A (fun x => decide (x < 3))) (atV_nodup _ _) (fun _ _ _ _ e => e) (fun x hx => by
      obtain ⟨m, e, hp⟩ := mem_atV.1 hx
      rw [hget] at e
      by_cases hkx : k = x
      · exact hkx ▸ List.mem_cons_self
      · rw [if_neg (fun h => hkx h.1)] at e
        exact List.mem_cons_of_mem _ (mem_atV.2 ⟨m, e, hp⟩))
    exact this
  · rw [if_neg h3, Nat.add_zero]
    refine numV_mono fun j m e hp => ?_
    rw [hget] at e
    split at e
    · cases e
      rw [decide_eq_false h3] at hp
      cases hp
    · exact ⟨m, e, hp⟩
theorem mk_ok {A : Ar} {vars : Int} {n : Nd} (h : SpA A vars) (h6 : vars ≤ 6) (hl : low3 A + (if n.var < 3 then 1 else 0) ≤ 2000) (hm : MayA A n) (hv : n.var < vars) (hne : n.low ≠ n.high) :
    makeE A n = 0 ∧ StpA A (makeA A n) vars (if n.var < 3 then 1 else 0) n.var (makeH A n) (fun v => if v n.var then den A n.high v else den A n.low v) := by
  have fin : ∀ A', SpA A' vars → ExtA A A' → low3 A' ≤ low3 A + (if n.var < 3 then 1 else 0) → ∀ x, gotA A' x = some n → StpA A A' vars (if n.var < 3 then 1 else 0) n.var x (fun v => if v n.var then den A n.high v else den A n.low v) := by
    intro A' h' hx hf x e
    refine ⟨h', hx, hf, has_some e, by rw [top_some e]; exact Int.le_refl _, fun v => ?_⟩
    rw [den_some h'.wf e]
    cases v n.var
    · exact h.same h' hx hm.low.1 v
    · exact h.same h' hx hm.high.1 v
  cases hl1 : liesA A n with
  | some k =>
    obtain ⟨e1, e2, e3⟩ := make_lies hm hl1
    rw [e2, e3]
    exact ⟨e1, fin A h (.refl A) (Nat.le_add_right _ _) _ (gotA_k.trans (liesA_some hl1))⟩
  | none =>
    cases hf : freeA A with
    | none =>
      have a1 := free_full hf
      have a2 := cnt_le h.wf (fun x d e => by have := h.var x d e; omega)
      have a3 := h.len
      split at hl <;> omega
    | some k =>
      obtain ⟨e1, e2, e3⟩ := make_new hm hl1 hf
      obtain ⟨hk, hkn⟩ := freeA_some hf
      rw [e2, e3]
      have hg := fun x => gotA_set (n := n) hk (x := x)
      have hx : ExtA A (A.set k (some n)) := ⟨List.length_set, fun x d e => by
        rw [hg x, if_neg]
        · exact e
        · rintro rfl
          rw [gotA_k, hkn] at e
          cases e⟩
      refine ⟨e1, fin _ ⟨h.wf.put hm hl1 hkn hk, fun x d e => ?_, fun x d e => ?_, by rw [List.length_set]; exact h.len⟩ hx (low3_set hk) _ (by rw [hg, if_pos rfl])⟩
      · rw [hg x] at e
        split at e
        · cases e; exact hne
        · exact h.red x d e
      · rw [hg x] at e
        split at e
        · cases e; exact hv
        · exact h.var x d e
/-- A sweep keeps functions of handles that are kept. -/
theorem sweep_ext (A : Ar) (l : List Int) : ExtA (sweepA A l) A := ⟨(sweep_len A l).symm, fun h d e => ((sweep_got A l h d).1 e).1⟩
theorem SpA.sweep {A : Ar} {vars : Int} (h : SpA A vars) (l : List Int) : SpA (sweepA A l) vars :=
  ⟨h.wf.sweep l, fun x d e => h.red x d ((sweep_ext A l).2 x d e), fun x d e => h.var x d ((sweep_ext A l).2 x d e), (sweep_len A l).trans h.len⟩
theorem sweep_low3 (A : Ar) (l : List Int) : low3 (sweepA A l) ≤ low3 A :=
  numV_mono fun k n e hp => ⟨n, gotA_k.symm.trans ((sweep_ext A l).2 _ n (gotA_k.trans e)), hp⟩
theorem sweep_has {A : Ar} {l : List Int} {x : Int} (hx : x ∈ l) (p : hasA A x = true) : hasA (sweepA A l) x = true := by
  cases e : gotA A x with
  | none => rcases has_none p e with rfl | rfl <;> simp [hasA]
  | some d => exact has_some ((sweep_got A l x d).2 ⟨e, .base hx e⟩)
theorem sweep_den {A : Ar} {vars : Int} {l : List Int} {x : Int} (h : SpA A vars) (hx : x ∈ l) (p : hasA A x = true) (v : Int → Bool) : den (sweepA A l) x v = den A x v :=
  ((h.sweep l).same h (sweep_ext A l) (sweep_has hx p) v).symm
end Go.Proofs.YtfbhmkpihmcegaaDoor
