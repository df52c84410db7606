/-
  A space of functions in memory.
-/
import Derived.Test.YtfbhmkpihmcegaaDoorBddLaw
import Derived.Test.YtfbhmkpihmcegaaDoorBddMap
import Derived.Test.YtfbhmkpihmcegaaDoorArenaSweep
namespace Go.Proofs.YtfbhmkpihmcegaaDoor
open Go.RowKit Go.Maps

/-- A space's blocks that its steps write. -/
def spB (B gn gu gt gc : Nat) (k : Nat) : Prop := arB B gn gu gt k ∨ k = gc
abbrev CacheM (w : World) (gc : Nat) (f : Int × Int × Int → Option Int) (m : Nat) : Prop := MapV 160 keyCL okC w gc f m
/-- The space in block S, over the arena A. -/
structure SpM (w : World) (S B gn gu gt gc : Nat) (vars : Int) (A : Ar) (m : Nat) : Prop where
  kS : Blk w S 112 #[.pointer (some ⟨B, 0, none⟩), .int .i64 vars, .map (some gc)]
  ar : ArM w B gn gu gt A
  cache : ∃ f, CacheM w gc f m ∧ CacheOk A f
  sp : SpA A vars
  v6 : 0 ≤ vars ∧ vars ≤ 6
theorem blk_mapV {kt : TypeId} {α : Type} {lit : α → Lit} {ok : α → Prop} {w : World} {b g m : Nat} {t : TypeId} {cs : Array Value} {f : α → Option Int} (h : Blk w b t cs) (hm : MapV kt lit ok w g f m) : b ≠ g := by
  rintro rfl
  obtain ⟨D, ⟨es, clock, hb, _⟩, _⟩ := hm
  have := h.symm.trans hb
  cases this
section
variable {w w' : World} {S B gn gu gt gc m : Nat} {vars : Int} {A A' : Ar}
theorem SpM.lt (h : SpM w S B gn gu gt gc vars A m) {k : Nat} (hk : spB B gn gu gt gc k) : k < w.heap.size := by
  obtain ⟨f, hc, _⟩ := h.cache
  rcases hk with hk | rfl
  · exact h.ar.lt hk
  · exact hc.lt
theorem SpM.gcA (h : SpM w S B gn gu gt gc vars A m) : ¬ arB B gn gu gt gc := by
  obtain ⟨f, hc, _⟩ := h.cache
  obtain ⟨ns, us, tab, _, h2, h3, h4, h5⟩ := h.ar.is
  rintro (e | e | e | e)
  · exact blk_mapV h2 hc e.symm
  · exact blk_mapV h3 hc e.symm
  · exact blk_mapV h4 hc e.symm
  · exact blk_mapV h5 hc e.symm
theorem SpM.sA (h : SpM w S B gn gu gt gc vars A m) : ¬ spB B gn gu gt gc S := by
  obtain ⟨f, hc, _⟩ := h.cache
  obtain ⟨ns, us, tab, _, h2, h3, h4, h5⟩ := h.ar.is
  rintro ((e | e | e | e) | e)
  · exact h.kS.ne_ h2 (by decide) e
  · exact h.kS.ne_ h3 (by decide) e
  · exact h.kS.ne_ h4 (by decide) e
  · exact h.kS.ne_ h5 (by decide) e
  · exact blk_mapV h.kS hc e
theorem SpM.keep (h : SpM w S B gn gu gt gc vars A m) (hk : ∀ k, spB B gn gu gt gc k ∨ k = S → w'.heap[k]? = w.heap[k]?) : SpM w' S B gn gu gt gc vars A m := by
  obtain ⟨f, hc, ho⟩ := h.cache
  exact ⟨(hk S (.inr rfl)).trans h.kS, h.ar.keep fun k hkk => hk k (.inl (.inl hkk)), ⟨f, hc.same (hk gc (.inl (.inr rfl))), ho⟩, h.sp, h.v6⟩
theorem SpM.below (h : SpM w S B gn gu gt gc vars A m) (hb : Below w.heap.size w w') : SpM w' S B gn gu gt gc vars A m :=
  h.keep fun k hk => hb.block k (hk.elim (fun h1 => h.lt h1) fun e => by rw [e]; exact h.kS.lt)
/-- A new arena, in its own blocks. -/
theorem SpM.arena (h : SpM w S B gn gu gt gc vars A m) (ha : ArM w' B gn gu gt A') (hp : SpA A' vars) (hx : ExtA A A') (hf : Fr (arB B gn gu gt) w w') : SpM w' S B gn gu gt gc vars A' m := by
  have hgc := h.gcA
  have hsA := h.sA
  obtain ⟨f, hc, ho⟩ := h.cache
  exact ⟨h.kS.fr hf (fun hk => hsA (.inl hk)), ha, ⟨f, hc.fr hf hgc, ho.ext h.sp hp hx⟩, hp, h.v6⟩
theorem fr_mono {P Q : Nat → Prop} (h : Fr P w w') (hPQ : ∀ k, P k → Q k) : Fr Q w w' := h.mono fun k _ hk => hPQ k hk
/-- A function's handle: what a step of a space answers. -/
def StpP (w : World) (S B gn gu gt gc : Nat) (vars : Int) (A : Ar) (m cl cm : Nat) (t : Int) (F : (Int → Bool) → Bool) (e : Ending) (w' : World) : Prop :=
  ∃ A' h m', e = .returned (.tuple #[.int .i64 h, .nilIface]) ∧ SpM w' S B gn gu gt gc vars A' m' ∧ StpA A A' vars cl t h F ∧ m' ≤ m + cm ∧ Fr (spB B gn gu gt gc) w w'
end
end Go.Proofs.YtfbhmkpihmcegaaDoor
