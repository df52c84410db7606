/-
  Maps of the call's own, keyed by ints, whose elements are known as they are.
-/
import Derived.Test.YtdlcldhnbhlikaaDoorBddMap
namespace Go.Proofs.YtdlcldhnbhlikaaDoor
open Go.RowKit Go.Maps

def heldR (v : Value) : Option (DataW Value × List MemPlace) := some (.held v, [])
structure ReadsH (D : DataW Value) (f : Int → Option Value) : Prop where
  has : ∀ x, I64 x → Maps.has D (keyL x) = (f x).isSome
  at_ : ∀ x z, I64 x → f x = some z → ∀ d, D.atKey (keyL x) d = .held z
  isMap : IsMap D
def MapH (w : World) (b : Nat) (f : Int → Option Value) (m : Nat) : Prop := ∃ D, w.ownsMap Tryd.prog 3 heldR b m D ∧ ReadsH D f
section
variable {w w' : World} {b m : Nat} {f : Int → Option Value}
theorem mapH_made (w : World) : MapH (w.alloc (.map #[] 0)) w.heap.size (fun _ => none) 0 :=
  ⟨_, World.ownsMap_made _ _ _ _, ⟨fun _ _ => rfl, fun _ _ _ e => (by cases e), isMap_empty⟩⟩
theorem MapH.same (h : MapH w b f m) (hb : w'.heap[b]? = w.heap[b]?) : MapH w' b f m := by
  obtain ⟨D, ⟨es, clock, h1, h2⟩, h3⟩ := h
  exact ⟨D, ⟨es, clock, hb.trans h1, h2⟩, h3⟩
theorem MapH.lt (h : MapH w b f m) : b < w.heap.size := by
  obtain ⟨D, h1, _⟩ := h
  exact h1.lt
theorem MapH.below (h : MapH w b f m) (hb : Below w.heap.size w w') : MapH w' b f m := h.same (hb.block b h.lt)
theorem MapH.isM (h : MapH w b f m) : ∃ es c, w.heap[b]? = some (.map es c) := by
  obtain ⟨D, ⟨es, clock, h1, h2⟩, h3⟩ := h
  exact ⟨es, clock, h1⟩
theorem ReadsH.put {D : DataW Value} (h : ReadsH D f) {x : Int} {z : Value} (hx : I64 x) : ReadsH (D.put (keyL x) (.held z)) (fun y => if y = x then some z else f y) := by
  refine ⟨fun y hy => ?_, fun y z' hy e d => ?_, h.isMap.put _ _⟩
  · by_cases e : y = x
    · subst e
      rw [if_pos rfl]
      exact has_put_same h.isMap (keyS_int.isKey y hy) _
    · skip
      rw [if_neg e, has_put_other (keyL_ne e)]
      exact h.has y hy
  · by_cases e' : y = x
    · subst e'
      rw [if_pos rfl] at e
      cases e
      exact atKey_put_same h.isMap (keyS_int.isKey y hy) _ _
    · skip
      rw [if_neg e'] at e
      rw [atKey_put_other (keyL_ne e')]
      exact h.at_ y z' hy e d
/-- 'z, ok := m[x]' of numbers, as an equation on the operation's run. -/
theorem MapH.lookRun (h : MapH w b f m) (x : Int) (hi : I64 x) :
    (Instr.lookup 75 (.map (some b)) (.int .i64 x) true).run Tryd.prog w = .ok (.tuple #[(f x).getD (.agg #[.slice none 0 0]), .bool (f x).isSome]) w := by
  obtain ⟨D, h1, h2⟩ := h
  obtain ⟨v, ps, hrun, hv⟩ := h1.look_ok keyS_int.K Tryd.underlying75 (show (zeroValue 35).run Tryd.prog w = .ok (.agg #[.slice none 0 0]) w by kernel_rfl) (zd := .held (.agg #[.slice none 0 0])) (zp := []) rfl (keyS_int.of x hi)
  rw [h2.has x hi] at hrun
  have e : v = (f x).getD (.agg #[.slice none 0 0]) := by
    simp only [heldR, Option.some.injEq, Prod.mk.injEq] at hv
    obtain ⟨hv, _⟩ := hv
    cases e : f x with
    | none =>
      rw [atKey_of_not_has (by rw [h2.has x hi, e]; rfl)] at hv
      injection hv
    | some z =>
      rw [h2.at_ x z hi e] at hv
      injection hv
  rw [← e]
  exact hrun
/-- 'm[x] = z'. -/
theorem storeH {ops : Array Oper} {rest : List Oper} {o : Oper} {a : Act} {Q : Exit → Act → World → Prop} (hg : o.guard = none) (mo xo yo : Operand) (hop : o.op = Op.mapUpdate 75 mo xo yo)
    (hm : a.eval mo = .map (some b)) (h : MapH w b f m) (x : Int) (z : Value) (hx : a.eval xo = .int .i64 x) (hy : a.eval yo = z) (hi : I64 x) (hs : m ≤ 1000000000)
    (hK : ∀ w', MapH w' b (fun y => if y = x then some z else f y) (m + 1) → w.grownBy w' (some b) → wpList Tryd.prog ops Q rest (a.put o.dst undef) w') : wpList Tryd.prog ops Q (o :: rest) a w := by
  obtain ⟨D, h1, h2⟩ := h
  refine wpList_mapUpdate_own w hg mo xo yo 75 hop 3 35 keyS_int.K Tryd.underlying75 _ b m D hm h1 (by simp only [maxLen]; omega) _ _ (keyL x) hx hy (keyS_int.of x hi) (.held z) [] rfl fun w' h3 h4 => ?_
  exact hK w' ⟨_, h3, h2.put hi⟩ h4
end
end Go.Proofs.YtdlcldhnbhlikaaDoor
