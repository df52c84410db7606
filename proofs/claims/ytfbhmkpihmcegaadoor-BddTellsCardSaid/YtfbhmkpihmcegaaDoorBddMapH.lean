/-
  Maps of the call's own, keyed by ints, whose elements are known as they are; how many values make a function true.
-/
import Derived.Test.YtfbhmkpihmcegaaDoorBddNeeds
import Derived.Test.YtfbhmkpihmcegaaDoorNatDbl
import Derived.Test.YtfbhmkpihmcegaaDoorNatAdd
namespace Go.Proofs.YtfbhmkpihmcegaaDoor
open Go.RowKit Go.Maps

def heldR (v : Value) : Option (DataW Value × List MemPlace) := some (.held v, [])
structure ReadsH (D : DataW Value) (f : Int → Option Value) : Prop where
  has : ∀ x, I64 x → Maps.has D (keyL x) = (f x).isSome
  at_ : ∀ x z, I64 x → f x = some z → ∀ d, D.atKey (keyL x) d = .held z
  isMap : IsMap D
def MapH (w : World) (b : Nat) (f : Int → Option Value) (m : Nat) : Prop := ∃ D, w.ownsMap Tryd.prog 3 heldR b m D ∧ ReadsH D f
section
variable {w w' : World} {b m : Nat} {f : Int → Option Value}
theorem mapH_made (w : World) : MapH (w.alloc (.map #[] 0)) w.heap.size (fun _ => none) 0 :=
  ⟨_, World.ownsMap_made _ _ _ _, ⟨fun _ _ => rfl, fun _ _ _ e => (by cases e), isMap_empty⟩⟩
theorem MapH.same (h : MapH w b f m) (hb : w'.heap[b]? = w.heap[b]?) : MapH w' b f m := by
  obtain ⟨D, ⟨es, clock, h1, h2⟩, h3⟩ := h
  exact ⟨D, ⟨es, clock, hb.trans h1, h2⟩, h3⟩
theorem MapH.lt (h : MapH w b f m) : b < w.heap.size := by
  obtain ⟨D, h1, _⟩ := h
  exact h1.lt
theorem MapH.below (h : MapH w b f m) (hb : Below w.heap.size w w') : MapH w' b f m := h.same (hb.block b h.lt)
theorem MapH.isM (h : MapH w b f m) : ∃ es c, w.heap[b]? = some (.map es c) := by
  obtain ⟨D, ⟨es, clock, h1, h2⟩, h3⟩ := h
  exact ⟨es, clock, h1⟩
theorem ReadsH.put {D : DataW Value} (h : ReadsH D f) {x : Int} {z : Value} (hx : I64 x) : ReadsH (D.put (keyL x) (.held z)) (fun y => if y = x then some z else f y) := by
  refine ⟨fun y hy => ?_, fun y z' hy e d => ?_, h.isMap.put _ _⟩
  · by_cases e : y = x
    · subst e
      rw [if_pos rfl]
      exact has_put_same h.isMap (keyS_int.isKey y hy) _
    · skip
      rw [if_neg e, has_put_other (keyL_ne e)]
      exact h.has y hy
  · by_cases e' : y = x
    · subst e'
      rw [if_pos rfl] at e
      cases e
      exact atKey_put_same h.isMap (keyS_int.isKey y hy) _ _
    · skip
      rw [if_neg e'] at e
      rw [atKey_put_other (keyL_ne e')]
      exact h.at_ y z' hy e d
/-- 'z, ok := m[x]' of numbers, as an equation on the operation's run. -/
theorem MapH.lookRun (h : MapH w b f m) (x : Int) (hi : I64 x) :
    (Instr.lookup 114 (.map (some b)) (.int .i64 x) true).run Tryd.prog w = .ok (.tuple #[(f x).getD (.agg #[.slice none 0 0]), .bool (f x).isSome]) w := by
  obtain ⟨D, h1, h2⟩ := h
  obtain ⟨v, ps, hrun, hv⟩ := h1.look_ok keyS_int.K Tryd.underlying114 (show (zeroValue 66).run Tryd.prog w = .ok (.agg #[.slice none 0 0]) w by kernel_rfl) (zd := .held (.agg #[.slice none 0 0])) (zp := []) rfl (keyS_int.of x hi)
  rw [h2.has x hi] at hrun
  have e : v = (f x).getD (.agg #[.slice none 0 0]) := by
    simp only [heldR, Option.some.injEq, Prod.mk.injEq] at hv
    obtain ⟨hv, _⟩ := hv
    cases e : f x with
    | none =>
      rw [atKey_of_not_has (by rw [h2.has x hi, e]; rfl)] at hv
      injection hv
    | some z =>
      rw [h2.at_ x z hi e] at hv
      injection hv
  rw [← e]
  exact hrun
/-- 'm[x] = z'. -/
theorem storeH {ops : Array Oper} {rest : List Oper} {o : Oper} {a : Act} {Q : Exit → Act → World → Prop} (hg : o.guard = none) (mo xo yo : Operand) (hop : o.op = Op.mapUpdate 114 mo xo yo)
    (hm : a.eval mo = .map (some b)) (h : MapH w b f m) (x : Int) (z : Value) (hx : a.eval xo = .int .i64 x) (hy : a.eval yo = z) (hi : I64 x) (hs : m ≤ 1000000000)
    (hK : ∀ w', MapH w' b (fun y => if y = x then some z else f y) (m + 1) → w.grownBy w' (some b) → wpList Tryd.prog ops Q rest (a.put o.dst undef) w') : wpList Tryd.prog ops Q (o :: rest) a w := by
  obtain ⟨D, h1, h2⟩ := h
  refine wpList_mapUpdate_own w hg mo xo yo 114 hop 3 66 keyS_int.K Tryd.underlying114 _ b m D hm h1 (by simp only [maxLen]; omega) _ _ (keyL x) hx hy (keyS_int.of x hi) (.held z) [] rfl fun w' h3 h4 => ?_
  exact hK w' ⟨_, h3, h2.put hi⟩ h4
end
/-! ### How many -/
def kidE (A : Ar) (vars : Int) (k v : Int) : Nat := (min (topA A k) vars - v - 1).toNat
def cN (A : Ar) (vars : Int) : Nat → Int → Nat
  | 0, h => if h = 1 then 1 else 0
  | n + 1, h => match gotA A h with | some d => cN A vars n d.low * 2 ^ kidE A vars d.low d.var + cN A vars n d.high * 2 ^ kidE A vars d.high d.var | none => if h = 1 then 1 else 0
/-- Of how many values of the variables from its top on it is true. -/
def cA (A : Ar) (vars : Int) (h : Int) : Nat := cN A vars 25 h
section
variable {A : Ar} {vars h : Int} {d : Nd}
theorem cN_none (e : gotA A h = none) : ∀ n, cN A vars n h = if h = 1 then 1 else 0
  | 0 => rfl
  | n + 1 => by show (match gotA A h with | some d => _ | none => _) = _; rw [e]
theorem cN_some (e : gotA A h = some d) (n : Nat) : cN A vars (n + 1) h = cN A vars n d.low * 2 ^ kidE A vars d.low d.var + cN A vars n d.high * 2 ^ kidE A vars d.high d.var := by
  show (match gotA A h with | some d => _ | none => _) = _; rw [e]
theorem cN_eq (hw : WfA A) : ∀ (n m : Nat) (h : Int), dep A h ≤ n → dep A h ≤ m → cN A vars n h = cN A vars m h := by
  intro n
  induction n with
  | zero =>
    intro m h h1 _
    have hn : gotA A h = none := by
      cases e : gotA A h with
      | none => rfl
      | some d => have := hw.dep e; unfold dep at h1; omega
    rw [cN_none hn, cN_none hn]
  | succ n ih =>
    intro m h h1 h2
    cases e : gotA A h with
    | none => rw [cN_none e, cN_none e]
    | some d =>
      have ht := hw.dep e
      have hk0 : d.var < topA A d.low := (hw.low _ _ e).2
      have hk1 : d.var < topA A d.high := (hw.high _ _ e).2
      have he := top_some e
      unfold dep at h1 h2
      obtain ⟨m', rfl⟩ : ∃ m', m = m' + 1 := ⟨m - 1, by omega⟩
      rw [cN_some e, cN_some e, ih m' d.low (by unfold dep; omega) (by unfold dep; omega), ih m' d.high (by unfold dep; omega) (by unfold dep; omega)]
theorem cA_none (e : gotA A h = none) : cA A vars h = if h = 1 then 1 else 0 := cN_none e 25
theorem cA_some (hw : WfA A) (e : gotA A h = some d) : cA A vars h = cA A vars d.low * 2 ^ kidE A vars d.low d.var + cA A vars d.high * 2 ^ kidE A vars d.high d.var := by
  have ht := hw.dep e
  have hk0 : d.var < topA A d.low := (hw.low _ _ e).2
  have hk1 : d.var < topA A d.high := (hw.high _ _ e).2
  have he := top_some e
  unfold cA
  rw [cN_some e, cN_eq hw 24 25 d.low (by unfold dep; omega) (by unfold dep; omega), cN_eq hw 24 25 d.high (by unfold dep; omega) (by unfold dep; omega)]
/-- .. not more than there are. -/
theorem cA_le (hw : WfA A) (hv : VarA A vars) (h0 : 0 ≤ vars) : ∀ (n : Nat) (h : Int), dep A h ≤ n → cA A vars h * 2 ^ (min (topA A h) vars).toNat ≤ 2 ^ vars.toNat := by
  intro n
  induction n with
  | zero =>
    intro h h1
    have hn : gotA A h = none := by
      cases e : gotA A h with
      | none => rfl
      | some d => have := hw.dep e; unfold dep at h1; omega
    rw [cA_none hn]
    have h2 : 2 ^ (min (topA A h) vars).toNat ≤ 2 ^ vars.toNat := Nat.pow_le_pow_right (by omega) (by omega)
    split
    · rw [Nat.one_mul]; exact h2
    · rw [Nat.zero_mul]; exact Nat.zero_le _
  | succ n ih =>
    intro h h1
    cases e : gotA A h with
    | none =>
      rw [cA_none e]
      have h2 : 2 ^ (min (topA A h) vars).toNat ≤ 2 ^ vars.toNat := Nat.pow_le_pow_right (by omega) (by omega)
      split
      · rw [Nat.one_mul]; exact h2
      · rw [Nat.zero_mul]; exact Nat.zero_le _
    | some d =>
      have ht := hw.dep e
      have hk0 : d.var < topA A d.low := (hw.low _ _ e).2
      have hk1 : d.var < topA A d.high := (hw.high _ _ e).2
      have he := top_some e
      have hvv := hv _ _ e
      unfold dep at h1
      have i0 := ih d.low (by unfold dep; omega)
      have i1 := ih d.high (by unfold dep; omega)
      have p : ∀ k : Int, d.var < topA A k → cA A vars k * 2 ^ (min (topA A k) vars).toNat = cA A vars k * 2 ^ kidE A vars k d.var * (2 ^ (d.var.toNat + 1)) := fun k hk => by
        rw [Nat.mul_assoc, ← Nat.pow_add]
        congr 2
        unfold kidE
        omega
      rw [p _ hk0] at i0
      rw [p _ hk1] at i1
      rw [cA_some hw e, he, show (min d.var vars).toNat = d.var.toNat by omega]
      rw [Nat.pow_succ] at i0 i1
      generalize cA A vars d.low * 2 ^ kidE A vars d.low d.var = a at i0 ⊢
      generalize cA A vars d.high * 2 ^ kidE A vars d.high d.var = b at i1 ⊢
      generalize 2 ^ d.var.toNat = c at i0 i1 ⊢
      rw [Nat.add_mul]
      have e0 : a * (c * 2) = a * c * 2 := (Nat.mul_assoc a c 2).symm
      have e1 : b * (c * 2) = b * c * 2 := (Nat.mul_assoc b c 2).symm
      omega
end
end Go.Proofs.YtfbhmkpihmcegaaDoor
