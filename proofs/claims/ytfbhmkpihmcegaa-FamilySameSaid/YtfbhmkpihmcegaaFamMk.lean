/-
  What one more node, and a sweep, make of an arena of families. No program in sight.
-/
import Derived.Test.YtfbhmkpihmcegaaFamPure
import Derived.Test.YtfbhmkpihmcegaaBddLaw
namespace Go.Proofs.Ytfbhmkpihmcegaa

/-- An arena of families of so many things. -/
structure SpZ (A : Ar) (things : Int) : Prop where
  wf : WfA A
  red : RedZ A
  var : VarA A things
  len : A.length = 4000
/-- A step from one arena to another that has all of it, and this handle. -/
structure StpZ (A A' : Ar) (things : Int) (c : Nat) (t h : Int) (f : Nat → Bool) : Prop where
  sp : SpZ A' things
  ext : ExtA A A'
  few : low3 A' ≤ low3 A + c
  has : hasA A' h = true
  top : t ≤ topA A' h
  fam : ∀ s, fam A' h s = f s
section
variable {A A' : Ar} {h : Int}
theorem ExtA.famE (hx : ExtA A A') (hw : WfA A) (hw' : WfA A') : ∀ (n : Nat) (h : Int) (s : Nat), dep A h ≤ n → hasA A h = true → fam A' h s = fam A h s := by
  intro n
  induction n with
  | zero =>
    intro h s h1 p
    have hn : gotA A h = none := by
      cases e : gotA A h with
      | none => rfl
      | some d => have := hw.dep e; unfold dep at h1; omega
    rw [fam_none hn, fam_none ((hx.got p).trans hn)]
  | succ n ih =>
    intro h s h1 p
    cases e : gotA A h with
    | none => rw [fam_none e, fam_none ((hx.got p).trans e)]
    | some d =>
      have ht := hw.dep e
      have hk0 := hw.low _ _ e
      have hk1 := hw.high _ _ e
      have he := top_some e
      unfold dep at h1
      rw [fam_some hw e, fam_some hw' ((hx.got p).trans e), ih d.high _ (by unfold dep; omega) hk1.1, ih d.low _ (by unfold dep; omega) hk0.1]
end
theorem SpZ.same {A A' : Ar} {things things' : Int} (h : SpZ A things) (h' : SpZ A' things') (hx : ExtA A A') {x : Int} (p : hasA A x = true) (s : Nat) : fam A' x s = fam A x s := hx.famE h.wf h'.wf _ x s (Nat.le_refl _) p
/-- What a node is of. -/
def nodeZ (A : Ar) (n : Nd) (s : Nat) : Bool := if s.testBit n.var.toNat then fam A n.high (clrN s n.var.toNat) else fam A n.low s
theorem mkz_ok {A : Ar} {things : Int} {n : Nd} (h : SpZ A things) (h6 : things ≤ 6) (hl : low3 A + (if n.var < 3 then 1 else 0) ≤ 2000) (hm : MayA A n) (hv : n.var < things) (hne : n.high ≠ 0) :
    makeE A n = 0 ∧ StpZ A (makeA A n) things (if n.var < 3 then 1 else 0) n.var (makeH A n) (nodeZ A n) := by
  have fin : ∀ A', SpZ A' things → ExtA A A' → low3 A' ≤ low3 A + (if n.var < 3 then 1 else 0) → ∀ x, gotA A' x = some n → StpZ A A' things (if n.var < 3 then 1 else 0) n.var x (nodeZ A n) := by
    intro A' h' hx hf x e
    refine ⟨h', hx, hf, has_some e, by rw [top_some e]; exact Int.le_refl _, fun s => ?_⟩
    rw [fam_some h'.wf e]
    unfold nodeZ
    rw [h.same h' hx hm.low.1, h.same h' hx hm.high.1]
  cases hl1 : liesA A n with
  | some k =>
    obtain ⟨e1, e2, e3⟩ := make_lies hm hl1
    rw [e2, e3]
    exact ⟨e1, fin A h (.refl A) (Nat.le_add_right _ _) _ (gotA_k.trans (liesA_some hl1))⟩
  | none =>
    cases hf : freeA A with
    | none =>
      have a1 := free_full hf
      have a2 := cnt_le h.wf (fun x d e => by have := h.var x d e; omega)
      have a3 := h.len
      split at hl <;> omega
    | some k =>
      obtain ⟨e1, e2, e3⟩ := make_new hm hl1 hf
      obtain ⟨hk, hkn⟩ := freeA_some hf
      rw [e2, e3]
      have hg := fun x => gotA_set (n := n) hk (x := x)
      have hx : ExtA A (A.set k (some n)) := ⟨List.length_set, fun x d e => by
        rw [hg x, if_neg]
        · exact e
        · rintro rfl
          rw [gotA_k, hkn] at e
          cases e⟩
      refine ⟨e1, fin _ ⟨h.wf.put hm hl1 hkn hk, fun x d e => ?_, fun x d e => ?_, by rw [List.length_set]; exact h.len⟩ hx (low3_set hk) _ (by rw [hg, if_pos rfl])⟩
      · rw [hg x] at e
        split at e
        · cases e; exact hne
        · exact h.red x d e
      · rw [hg x] at e
        split at e
        · cases e; exact hv
        · exact h.var x d e
theorem SpZ.sweep {A : Ar} {things : Int} (h : SpZ A things) (l : List Int) : SpZ (sweepA A l) things :=
  ⟨h.wf.sweep l, fun x d e => h.red x d ((sweep_ext A l).2 x d e), fun x d e => h.var x d ((sweep_ext A l).2 x d e), (sweep_len A l).trans h.len⟩
theorem sweep_fam {A : Ar} {things : Int} {l : List Int} {x : Int} (h : SpZ A things) (hx : x ∈ l) (p : hasA A x = true) (s : Nat) : fam (sweepA A l) x s = fam A x s :=
  ((h.sweep l).same h (sweep_ext A l) (sweep_has hx p) s).symm
/-- Where nothing has the thing there is no node. -/
theorem nodeZ_low {A : Ar} {things t lo : Int} (h : SpZ A things) (ht : t < topA A lo) (h0 : 0 ≤ t) (s : Nat) : nodeZ A ⟨t, lo, 0⟩ s = fam A lo s := by
  unfold nodeZ
  simp only
  split
  · rename_i hb
    rw [fam_zero]
    cases hf : fam A lo s with
    | false => rfl
    | true =>
      have := fam_top h.wf _ lo s (Nat.le_refl _) hf t.toNat (by omega)
      rw [this] at hb
      cases hb
  · rfl
end Go.Proofs.Ytfbhmkpihmcegaa
