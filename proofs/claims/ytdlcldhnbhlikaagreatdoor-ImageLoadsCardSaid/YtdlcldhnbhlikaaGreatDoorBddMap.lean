/-
  Maps of the call's own, keyed by ints: of nodes, of bools. Maps of the call's own whose elements are ints: keyed by ints, and by rows of four.
-/
import Derived.Test.YtdlcldhnbhlikaaGreatDoorArenaArr
import Derived.Test.YtdlcldhnbhlikaaGreatDoorFind
import Derived.BigFrame
import Derived.Maps.OwnOps
import Derived.Maps.Views
import Derived.Maps.OwnSet
import Derived.Maps.RangeWalk
import Derived.WideKeyArr2
namespace Go.Proofs.YtdlcldhnbhlikaaGreatDoor
open Go.RowKit Go.Maps

theorem keyI : Keyed Tryz.prog 3 := int_keyed Tryz.underlying3
theorem zeroBool (w : World) : (zeroValue 4).run Tryz.prog w = .ok (.bool false) w := by kernel_rfl
theorem wfK {z : Int} (h : I64 z) : (Lit.int .i64 z).wf = true := WalkArith.wf_i64 (by unfold I64 at h; omega)
def keyL (h : Int) : Lit := .int .i64 h
theorem keyL_ne {a b : Int} (h : a ≠ b) : keyL a ≠ keyL b := by
  intro e
  injection e with _ e
  exact h e
theorem keyL_of {h : Int} (hh : I64 h) : keyOf Tryz.prog 3 (.int .i64 h) = some (keyL h) := keyOf_int_mk Tryz.underlying3 (wfK hh)

def nodeD (n : Nd) : DataW Unit := .agg [.lit (.int .i64 n.var), .lit (.int .i64 n.low), .lit (.int .i64 n.high)]
def nodeElem (v : Value) : Option (DataW Unit × List MemPlace) :=
  match v with
  | .agg cs => match cs.toList with
    | [.int .i64 a, .int .i64 b, .int .i64 c] => some (nodeD ⟨a, b, c⟩, [])
    | _ => none
  | _ => none
theorem nodeElem_mk (n : Nd) : nodeElem (nodeV n) = some (nodeD n, []) := rfl
theorem nodeElem_inv {v : Value} {z : DataW Unit × List MemPlace} (h : nodeElem v = some z) : ∃ n, v = nodeV n ∧ z = (nodeD n, []) := by
  unfold nodeElem at h
  split at h
  · rename_i cs
    split at h
    · rename_i a b c e
      cases h
      refine ⟨⟨a, b, c⟩, ?_, rfl⟩
      unfold nodeV
      rw [← Array.toList_inj.1 (show cs.toList = (#[Value.int .i64 a, .int .i64 b, .int .i64 c] : Array Value).toList from e)]
    · cases h
  · cases h
theorem nodeD_inj {a b : Nd} (h : nodeD a = nodeD b) : a = b := by
  unfold nodeD at h
  injection h with h
  simp at h
  cases a; cases b
  simp at h ⊢
  exact h

/-- How a map reads: f at each key, m entries. -/
structure ReadsN (D : DataW Unit) (f : Int → Option Nd) (m : Nat) : Prop where
  has : ∀ h, I64 h → Maps.has D (keyL h) = (f h).isSome
  at_ : ∀ h n, I64 h → f h = some n → ∀ z, D.atKey (keyL h) z = nodeD n
  size : Maps.size D = m
  isMap : IsMap D
/-- The map in block b: f at each key, m entries. -/
def MapN (w : World) (b : Nat) (f : Int → Option Nd) (m : Nat) : Prop := ∃ D, w.ownsMap Tryz.prog 3 nodeElem b m D ∧ ReadsN D f m
section
variable {w w' : World} {b m : Nat} {f : Int → Option Nd}
theorem own_size {R : Value → Option (DataW Unit × List MemPlace)} {n : Nat} {D : DataW Unit} (h : w.ownsMap Tryz.prog 3 R b n D) : w.ownsMap Tryz.prog 3 R b (Maps.size D) D := by
  obtain ⟨es, clock, h1, h2, _, h4⟩ := h
  refine ⟨es, clock, h1, h2, ?_, h4⟩
  rw [h4, size_eq, length_sorted]
  simp
theorem mapN_made (w : World) : MapN (w.alloc (.map #[] 0)) w.heap.size (fun _ => none) 0 :=
  ⟨_, World.ownsMap_made _ _ _ _, ⟨fun _ _ => rfl, fun h n _ e => (by cases e), rfl, isMap_empty⟩⟩
theorem MapN.kept {row : Option Nat} (h : MapN w b f m) (hg : w.grownBy w' row) (hne : some b ≠ row) : MapN w' b f m := by
  obtain ⟨D, h1, h2⟩ := h
  exact ⟨D, h1.kept hg hne, h2⟩
theorem own_blk {R : Value → Option (DataW Unit × List MemPlace)} {n : Nat} {D : DataW Unit} (h : w.ownsMap Tryz.prog 3 R b n D) (hb : w'.heap[b]? = w.heap[b]?) : w'.ownsMap Tryz.prog 3 R b n D := by
  obtain ⟨es, clock, h1, h2⟩ := h
  exact ⟨es, clock, hb.trans h1, h2⟩
theorem MapN.same (h : MapN w b f m) (hb : w'.heap[b]? = w.heap[b]?) : MapN w' b f m := by
  obtain ⟨D, h1, h2⟩ := h
  exact ⟨D, own_blk h1 hb, h2⟩
theorem MapN.lt (h : MapN w b f m) : b < w.heap.size := by
  obtain ⟨D, h1, _⟩ := h
  exact h1.lt
theorem ReadsN.val {D : DataW Unit} (h : ReadsN D f m) {x : Int} (hx : I64 x) : D.atKey (keyL x) (nodeD nd0) = nodeD ((f x).getD nd0) := by
  cases e : f x with
  | none => exact atKey_of_not_has (by rw [h.has x hx, e]; rfl) _
  | some n => exact h.at_ x n hx e _
theorem ReadsN.put {D : DataW Unit} (h : ReadsN D f m) (ht : Tidy D) {x : Int} {n : Nd} (hx : I64 x) (hf : f x = none) : ReadsN (D.put (keyL x) (nodeD n)) (fun y => if y = x then some n else f y) (m + 1) := by
  have hh : Maps.has D (keyL x) = false := by rw [h.has x hx, hf]; rfl
  refine ⟨fun y hy => ?_, fun y n' hy e z => ?_, ?_, h.isMap.put _ _⟩
  · by_cases e : y = x
    · subst e
      rw [if_pos rfl]
      exact has_put_same h.isMap (show WideAt.IsKeyLit (keyL y) from trivial) _
    · skip
      rw [if_neg e, has_put_other (keyL_ne e)]
      exact h.has y hy
  · by_cases e' : y = x
    · subst e'
      rw [if_pos rfl] at e
      cases e
      exact atKey_put_same h.isMap (show WideAt.IsKeyLit (keyL y) from trivial) _ _
    · skip
      rw [if_neg e'] at e
      rw [atKey_put_other (keyL_ne e')]
      exact h.at_ y n' hy e z
  · rw [size_put ht, hh, h.size]
    rfl
variable {ops : Array Oper} {rest : List Oper} {o : Oper} {a : Act} {Q : Exit → Act → World → Prop}
/-- A map of bools, of which none is false. -/
structure ReadsB (D : DataW Unit) (f : Int → Bool) (m : Nat) : Prop where
  has : ∀ h, I64 h → Maps.has D (keyL h) = f h
  at_ : ∀ h, I64 h → D.atKey (keyL h) (.lit (.bool false)) = .lit (.bool (f h))
  size : Maps.size D = m
  isMap : IsMap D
def MapS (w : World) (b : Nat) (f : Int → Bool) (m : Nat) : Prop := ∃ D, w.ownsMap Tryz.prog 3 (plainElem Tryz.prog 4) b m D ∧ ReadsB D f m
variable {s : Int → Bool}
theorem mapS_made (w : World) : MapS (w.alloc (.map #[] 0)) w.heap.size (fun _ => false) 0 :=
  ⟨_, World.ownsMap_made _ _ _ _, ⟨fun _ _ => rfl, fun _ _ => rfl, rfl, isMap_empty⟩⟩
theorem MapS.kept {row : Option Nat} (h : MapS w b s m) (hg : w.grownBy w' row) (hne : some b ≠ row) : MapS w' b s m := by
  obtain ⟨D, h1, h2⟩ := h
  exact ⟨D, h1.kept hg hne, h2⟩
theorem MapS.same (h : MapS w b s m) (hb : w'.heap[b]? = w.heap[b]?) : MapS w' b s m := by
  obtain ⟨D, h1, h2⟩ := h
  exact ⟨D, own_blk h1 hb, h2⟩
theorem MapS.lt (h : MapS w b s m) : b < w.heap.size := by
  obtain ⟨D, h1, _⟩ := h
  exact h1.lt
theorem plainElem_bool_at {P : Program} {t : TypeId} (ht : P.underlying t = some .bool) {v : Value} {z : DataW Unit × List MemPlace} (h : plainElem P t v = some z) : ∃ x, v = .bool x ∧ z = (.lit (.bool x), []) := by
  unfold plainElem at h
  rw [ht] at h
  cases v <;> simp at h
  exact ⟨_, rfl, h.symm⟩
theorem plainElem_bool_inv {v : Value} {z : DataW Unit × List MemPlace} (h : plainElem Tryz.prog 4 v = some z) : ∃ x, v = .bool x ∧ z = (.lit (.bool x), []) := plainElem_bool_at Tryz.underlying4 h
theorem ReadsB.put {D : DataW Unit} (h : ReadsB D s m) (ht : Tidy D) {x : Int} (hx : I64 x) (hf : s x = false) : ReadsB (D.put (keyL x) (.lit (.bool true))) (fun y => if y = x then true else s y) (m + 1) := by
  have hh : Maps.has D (keyL x) = false := by rw [h.has x hx, hf]
  refine ⟨fun y hy => ?_, fun y hy => ?_, ?_, h.isMap.put _ _⟩
  · by_cases e : y = x
    · subst e
      rw [if_pos rfl]
      exact has_put_same h.isMap (show WideAt.IsKeyLit (keyL y) from trivial) _
    · skip
      rw [if_neg e, has_put_other (keyL_ne e)]
      exact h.has y hy
  · by_cases e : y = x
    · subst e
      rw [if_pos rfl]
      exact atKey_put_same h.isMap (show WideAt.IsKeyLit (keyL y) from trivial) _ _
    · skip
      rw [if_neg e, atKey_put_other (keyL_ne e)]
      exact h.at_ y hy
  · rw [size_put ht, hh, h.size]
    rfl
/-- 'm[x]'. -/
theorem lookS (hg : Region.wanted o (yielded ops a.tmps) = true) (mo xo : Operand) (t : TypeId) (hop : o.op = Op.lookup t mo xo false) (ht : Tryz.prog.underlying t = some (.map 3 4))
    (hm : a.eval mo = .map (some b)) (h : MapS w b s m) (x : Int) (hx : a.eval xo = .int .i64 x) (hi : I64 x)
    (hK : wpList Tryz.prog ops Q rest (a.put o.dst (.bool (s x))) w) : wpList Tryz.prog ops Q (o :: rest) a w := by
  obtain ⟨D, h1, h2⟩ := h
  obtain ⟨v, ps, hrun, hv⟩ := h1.lookup keyI ht (zeroBool w) (plainElem_bool Tryz.underlying4 false) (keyL_of hi)
  obtain ⟨c, rfl, e⟩ := plainElem_bool_inv hv
  have e1 := congrArg Prod.fst e
  simp only at e1
  rw [h2.at_ x hi] at e1
  simp only [DataW.lit.injEq, Lit.bool.injEq] at e1
  rw [← e1] at hrun
  refine BigFrame.wpList_want hg fun K' hK' => ?_
  unfold Oper.wp
  simp [execOp, hop, hm, hx, hrun, Result.andThen]
  exact hK' _ _ hK
/-- 'm[x] = true', a new key. -/
theorem storeS (hg : o.guard = none) (mo xo yo : Operand) (t : TypeId) (hop : o.op = Op.mapUpdate t mo xo yo) (ht : Tryz.prog.underlying t = some (.map 3 4))
    (hm : a.eval mo = .map (some b)) (h : MapS w b s m) (x : Int) (hx : a.eval xo = .int .i64 x) (hy : a.eval yo = .bool true) (hi : I64 x) (hf : s x = false) (hs : m ≤ 1000000)
    (hK : ∀ w', MapS w' b (fun y => if y = x then true else s y) (m + 1) → w.grownBy w' (some b) → wpList Tryz.prog ops Q rest (a.put o.dst undef) w') : wpList Tryz.prog ops Q (o :: rest) a w := by
  obtain ⟨D, h1, h2⟩ := h
  refine wpList_mapUpdate_own w hg mo xo yo t hop 3 4 keyI ht _ b m D hm h1 (by simp only [maxLen]; omega) _ _ (keyL x) hx hy (keyL_of hi) (.lit (.bool true)) [] (plainElem_bool Tryz.underlying4 true) fun w' h3 h4 => ?_
  exact hK w' ⟨_, h3, h2.put (h1.tidy keyI) hi hf⟩ h4
/-- 'len(m)'. -/
theorem lenS (hg : o.guard = none) (mo : Operand) (t : TypeId) (hop : o.op = Op.call { callee := Callee.builtin Builtin.len, args := #[mo], argTypes := #[t] }) (ht : Tryz.prog.underlying t = some (.map 3 4))
    (hm : a.eval mo = .map (some b)) (h : MapS w b s m) (hK : wpList Tryz.prog ops Q rest (a.put o.dst (.int .i64 (m : Int))) w) : wpList Tryz.prog ops Q (o :: rest) a w := by
  obtain ⟨D, h1, h2⟩ := h
  refine wpList_len_own w hg mo t hop 3 4 ht _ b m D hm h1 ?_
  rw [h2.size]
  exact hK
end
end Go.Proofs.YtdlcldhnbhlikaaGreatDoor
namespace Go.Proofs.YtdlcldhnbhlikaaGreatDoor
open Go.RowKit Go.Maps

/-- What is said of a key's type: the keys, as values and as they read. -/
structure KeyS (kt : TypeId) (α : Type) (key : α → Value) (lit : α → Lit) (ok : α → Prop) : Prop where
  K : Keyed Tryz.prog kt
  of : ∀ x, ok x → keyOf Tryz.prog kt (key x) = some (lit x)
  inj : ∀ x y, key x = key y → x = y
  isKey : ∀ x, ok x → WideAt.IsKeyLit (lit x)
theorem KeyS.ne {kt : TypeId} {α : Type} {key : α → Value} {lit : α → Lit} {ok : α → Prop} (S : KeyS kt α key lit ok) {x y : α} (hx : ok x) (hy : ok y) (h : x ≠ y) : lit x ≠ lit y := fun e =>
  h (S.inj x y (S.K.inj (S.of x hx) ((S.of y hy).trans (congrArg some e.symm))))
theorem keyS_int : KeyS 3 Int (fun x => .int .i64 x) keyL I64 :=
  ⟨keyI, fun _ h => keyL_of h, fun x y e => (by injection e), fun _ _ => trivial⟩
/-- How a map reads: f at each key. -/
structure ReadsV {α : Type} (lit : α → Lit) (ok : α → Prop) (D : DataW Unit) (f : α → Option Int) : Prop where
  has : ∀ x, ok x → Maps.has D (lit x) = (f x).isSome
  at_ : ∀ x z, ok x → f x = some z → ∀ d, D.atKey (lit x) d = .lit (.int .i64 z)
  isMap : IsMap D
/-- The map in block b: f at each key, m entries at most. -/
def MapV (kt : TypeId) {α : Type} (lit : α → Lit) (ok : α → Prop) (w : World) (b : Nat) (f : α → Option Int) (m : Nat) : Prop := ∃ D, w.ownsMap Tryz.prog kt (plainElem Tryz.prog 3) b m D ∧ ReadsV lit ok D f
section
variable {kt : TypeId} {α : Type} {key : α → Value} {lit : α → Lit} {ok : α → Prop} {w w' : World} {b m : Nat} {f : α → Option Int}
theorem mapV_made (w : World) : MapV kt lit ok (w.alloc (.map #[] 0)) w.heap.size (fun _ => none) 0 :=
  ⟨_, World.ownsMap_made _ _ _ _, ⟨fun _ _ => rfl, fun _ _ _ e => (by cases e), isMap_empty⟩⟩
theorem MapV.same (h : MapV kt lit ok w b f m) (hb : w'.heap[b]? = w.heap[b]?) : MapV kt lit ok w' b f m := by
  obtain ⟨D, ⟨es, clock, h1, h2⟩, h3⟩ := h
  exact ⟨D, ⟨es, clock, hb.trans h1, h2⟩, h3⟩
theorem MapV.lt (h : MapV kt lit ok w b f m) : b < w.heap.size := by
  obtain ⟨D, h1, _⟩ := h
  exact h1.lt
theorem MapV.below (h : MapV kt lit ok w b f m) {C : Nat} (hb : Below C w w') (hC : b < C) : MapV kt lit ok w' b f m := h.same (hb.block b hC)
theorem MapV.fr {S : Nat → Prop} (h : MapV kt lit ok w b f m) (hf : Fr S w w') (hS : ¬ S b) : MapV kt lit ok w' b f m := h.same (hf.block b h.lt hS)
variable [DecidableEq α]
theorem ReadsV.put {D : DataW Unit} (h : ReadsV lit ok D f) (S : KeyS kt α key lit ok) {x : α} {z : Int} (hx : ok x) : ReadsV lit ok (D.put (lit x) (.lit (.int .i64 z))) (fun y => if y = x then some z else f y) := by
  refine ⟨fun y hy => ?_, fun y z' hy e d => ?_, h.isMap.put _ _⟩
  · by_cases e : y = x
    · subst e
      rw [if_pos rfl]
      exact has_put_same h.isMap (S.isKey y hy) _
    · skip
      rw [if_neg e, has_put_other (S.ne hy hx e)]
      exact h.has y hy
  · by_cases e' : y = x
    · subst e'
      rw [if_pos rfl] at e
      cases e
      exact atKey_put_same h.isMap (S.isKey y hy) _ _
    · skip
      rw [if_neg e'] at e
      rw [atKey_put_other (S.ne hy hx e')]
      exact h.at_ y z' hy e d
variable {ops : Array Oper} {rest : List Oper} {o : Oper} {a : Act} {Q : Exit → Act → World → Prop}
omit [DecidableEq α] in
/-- .. as an equation on the operation's run. -/
theorem MapV.lookRun (S : KeyS kt α key lit ok) {t : TypeId} (ht : Tryz.prog.underlying t = some (.map kt 3)) (h : MapV kt lit ok w b f m) (x : α) (hi : ok x) :
    (Instr.lookup t (.map (some b)) (key x) true).run Tryz.prog w = .ok (.tuple #[.int .i64 ((f x).getD 0), .bool (f x).isSome]) w := by
  obtain ⟨D, h1, h2⟩ := h
  obtain ⟨v, ps, hrun, hv⟩ := h1.look_ok S.K ht (show (zeroValue 3).run Tryz.prog w = .ok (.int .i64 0) w by kernel_rfl) (plainElem_int Tryz.underlying3 (by decide)) (S.of x hi)
  obtain ⟨c, rfl, hc, _⟩ := plainElem_int_inv Tryz.underlying3 hv
  have e1 := congrArg Prod.fst hc
  simp only at e1
  rw [h2.has x hi] at hrun
  have e : c = (f x).getD 0 := by
    cases e : f x with
    | none =>
      rw [atKey_of_not_has (by rw [h2.has x hi, e]; rfl)] at e1
      simpa using e1.symm
    | some z =>
      rw [h2.at_ x z hi e] at e1
      simpa using e1.symm
  rw [← e]
  exact hrun
omit [DecidableEq α] in
/-- 'z, ok := m[x]'. -/
theorem lookV_ok (S : KeyS kt α key lit ok) (hg : o.guard = none) (mo xo : Operand) (t : TypeId) (hop : o.op = Op.lookup t mo xo true) (ht : Tryz.prog.underlying t = some (.map kt 3))
    (hm : a.eval mo = .map (some b)) (h : MapV kt lit ok w b f m) (x : α) (hx : a.eval xo = key x) (hi : ok x)
    (hK : wpList Tryz.prog ops Q rest (a.put o.dst (.tuple #[.int .i64 ((f x).getD 0), .bool (f x).isSome])) w) : wpList Tryz.prog ops Q (o :: rest) a w := by
  obtain ⟨D, h1, h2⟩ := h
  refine wpList_lookup_own_ok_int w hg mo xo t hop kt 3 .i64 S.K ht Tryz.underlying3 (by kernel_rfl) b m D hm h1 _ (lit x) hx (S.of x hi) fun c hc _ => ?_
  rw [h2.has x hi]
  have e : c = (f x).getD 0 := by
    cases e : f x with
    | none =>
      rw [atKey_of_not_has (by rw [h2.has x hi, e]; rfl)] at hc
      simpa using hc.symm
    | some z =>
      rw [h2.at_ x z hi e] at hc
      simpa using hc.symm
  rw [e]
  exact hK
/-- 'm[x] = z'. -/
theorem storeV (S : KeyS kt α key lit ok) (hg : o.guard = none) (mo xo yo : Operand) (t : TypeId) (hop : o.op = Op.mapUpdate t mo xo yo) (ht : Tryz.prog.underlying t = some (.map kt 3))
    (hm : a.eval mo = .map (some b)) (h : MapV kt lit ok w b f m) (x : α) (z : Int) (hx : a.eval xo = key x) (hy : a.eval yo = .int .i64 z) (hi : ok x) (hz : I64 z) (hs : m ≤ 1000000)
    (hK : ∀ w', MapV kt lit ok w' b (fun y => if y = x then some z else f y) (m + 1) → w.grownBy w' (some b) → wpList Tryz.prog ops Q rest (a.put o.dst undef) w') : wpList Tryz.prog ops Q (o :: rest) a w := by
  obtain ⟨D, h1, h2⟩ := h
  refine wpList_mapUpdate_own w hg mo xo yo t hop kt 3 S.K ht _ b m D hm h1 (by simp only [maxLen]; omega) _ _ (lit x) hx hy (S.of x hi) (.lit (.int .i64 z)) [] (plainElem_int Tryz.underlying3 (wfK hz)) fun w' h3 h4 => ?_
  exact hK w' ⟨_, h3, h2.put S hi⟩ h4
omit [DecidableEq α] in
/-- 'clear(m)'. -/
theorem clearV (hg : o.guard = none) (mo : Operand) (t : TypeId) (hop : o.op = Op.call { callee := Callee.builtin Builtin.clear, args := #[mo], argTypes := #[t] }) (ht : Tryz.prog.underlying t = some (.map kt 3))
    (hm : a.eval mo = .map (some b)) (h : MapV kt lit ok w b f m)
    (hK : ∀ w', MapV kt lit ok w' b (fun _ => none) 0 → w.grownBy w' (some b) → wpList Tryz.prog ops Q rest (a.put o.dst (.tuple #[])) w') : wpList Tryz.prog ops Q (o :: rest) a w := by
  obtain ⟨D, h1, h2⟩ := h
  obtain ⟨es, clock, hb, F, hs, hD⟩ := h1
  have hrun : (Builtin.clear_ #[t] o.type #[.map (some b)]).run Tryz.prog w = .ok (.tuple #[]) (ChangeMaps.setBlock w b (.map #[] clock)) := by
    simp [Builtin.clear_, run_underlying ht, MapKept.run_getObj_map hb, MapKept.run_setObj_map _ hb, Result.andThen, ChangeMaps.setBlock]
  refine wpList_plain hg fun K' hK' => ?_
  unfold Oper.wp
  simp [execOp, hop, resolve, invoke, builtin, hm, hrun, Result.andThen]
  refine hK' _ _ (hK _ ⟨.map [], ⟨#[], clock, ChangeMaps.heap_setBlock_same hb _, ⟨by simp, Go.MapKept.stamped_empty clock, by simp⟩, Nat.le_refl _, rfl⟩, ⟨fun _ _ => rfl, fun _ _ _ e => (by cases e), isMap_empty⟩⟩ ?_)
  exact World.mapTurned.grown ⟨es, clock, #[], clock, hb, rfl⟩
end
/-- The rows of four by which a space remembers: 0 and three handles. -/
def keyCV (x : Int × Int × Int) : Value := .agg #[.int .i64 0, .int .i64 x.1, .int .i64 x.2.1, .int .i64 x.2.2]
def keyCL (x : Int × Int × Int) : Lit := .string (keyBytes [.int .i64 0, .int .i64 x.1, .int .i64 x.2.1, .int .i64 x.2.2])
def okC (x : Int × Int × Int) : Prop := I64 x.1 ∧ I64 x.2.1 ∧ I64 x.2.2
theorem arrC : WideMaps.ArrKey Tryz.prog 229 3 4 := ⟨Tryz.underlying229, by kernel_rfl, by kernel_rfl, by kernel_rfl⟩
theorem keyC_of {x : Int × Int × Int} (h : okC x) : keyOf Tryz.prog 229 (keyCV x) = some (keyCL x) := by
  obtain ⟨a, b, c⟩ := x
  obtain ⟨h1, h2, h3⟩ := h
  have A := arrC
  have hkt := A.keyType ⟨288 - 1, by kernel_rfl⟩
  have he := Tryz.underlying3
  have hm : Tryz.prog.types.size = (288 - 1) + 1 := by kernel_rfl
  unfold keyOf keyCV keyCL
  simp only [A.hu]
  rw [if_pos (by simp [hkt, Value.formed, A.hu, A.size]), hm]
  unfold Program.keyLits
  simp only [A.hu, Value.cells]
  rw [if_pos (by rw [A.size]; rfl), show List.range 4 = [0, 1, 2, 3] from rfl, List.mapM_cons, List.mapM_cons, List.mapM_cons, List.mapM_cons, List.mapM_nil]
  simp [A.one, Program.keyLits, he, wfK h1, wfK h2, wfK h3, wfK (show I64 0 by unfold I64; omega)]
theorem keyS_four : KeyS 229 (Int × Int × Int) keyCV keyCL okC := by
  refine ⟨.of_law arrC.law, fun _ h => keyC_of h, fun x y e => ?_, fun _ _ => trivial⟩
  obtain ⟨a, b, c⟩ := x
  obtain ⟨a', b', c'⟩ := y
  unfold keyCV at e
  simp at e
  simp [e]
end Go.Proofs.YtdlcldhnbhlikaaGreatDoor
