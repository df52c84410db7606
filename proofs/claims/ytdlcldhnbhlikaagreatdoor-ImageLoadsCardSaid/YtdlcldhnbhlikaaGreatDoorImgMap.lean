/-
  A map of ints to ints of which the number of keys is known.
-/
import Derived.Test.YtdlcldhnbhlikaaGreatDoorBddMap
namespace Go.Proofs.YtdlcldhnbhlikaaGreatDoor
open Go.RowKit Go.Maps

/-- The map in block b: f at each key; m keys. -/
def MapX (w : World) (b : Nat) (f : Int → Option Int) (m : Nat) : Prop := ∃ D, w.ownsMap Tryz.prog 3 (plainElem Tryz.prog 3) b m D ∧ ReadsV keyL I64 D f ∧ Maps.size D = m
section
variable {w w' : World} {b m : Nat} {f : Int → Option Int}
theorem mapX_made (w : World) : MapX (w.alloc (.map #[] 0)) w.heap.size (fun _ => none) 0 :=
  ⟨_, World.ownsMap_made _ _ _ _, ⟨fun _ _ => rfl, fun _ _ _ e => (by cases e), isMap_empty⟩, rfl⟩
theorem MapX.toV (h : MapX w b f m) : MapV 3 keyL I64 w b f m := by
  obtain ⟨D, h1, h2, _⟩ := h
  exact ⟨D, h1, h2⟩
theorem MapX.same (h : MapX w b f m) (hb : w'.heap[b]? = w.heap[b]?) : MapX w' b f m := by
  obtain ⟨D, ⟨es, clock, h1, h2⟩, h3⟩ := h
  exact ⟨D, ⟨es, clock, hb.trans h1, h2⟩, h3⟩
theorem MapX.lt (h : MapX w b f m) : b < w.heap.size := h.toV.lt
theorem MapX.below (h : MapX w b f m) {C : Nat} (hb : Below C w w') (hC : b < C) : MapX w' b f m := h.same (hb.block b hC)
theorem MapX.fr {S : Nat → Prop} (h : MapX w b f m) (hf : Fr S w w') (hS : ¬ S b) : MapX w' b f m := h.same (hf.block b h.lt hS)
theorem MapX.congr {f' : Int → Option Int} (h : MapX w b f m) (e : ∀ x, f x = f' x) : MapX w b f' m := by rw [← show f = f' from funext e]; exact h
theorem sizeX_put {D : DataW Unit} (h : ReadsV keyL I64 D f) (ht : Tidy D) {x z : Int} (hx : I64 x) (hf : f x = none) : Maps.size (D.put (keyL x) (.lit (.int .i64 z))) = Maps.size D + 1 := by
  have hh : Maps.has D (keyL x) = false := by rw [h.has x hx, hf]; rfl
  rw [size_put ht, hh]
  rfl
/-- 'm[x]', as an equation on the operation's run. -/
theorem MapX.lookRun1 {t : TypeId} (ht : Tryz.prog.underlying t = some (.map 3 3)) (h : MapX w b f m) (x : Int) (hi : I64 x) :
    (Instr.lookup t (.map (some b)) (.int .i64 x) false).run Tryz.prog w = .ok (.int .i64 ((f x).getD 0)) w := by
  obtain ⟨D, h1, h2, _⟩ := h
  obtain ⟨v, ps, hrun, hv⟩ := h1.lookup keyI ht (show (zeroValue 3).run Tryz.prog w = .ok (.int .i64 0) w by kernel_rfl) (zd := .lit (.int .i64 0)) (zp := []) (plainElem_int Tryz.underlying3 (by decide)) (keyL_of hi)
  obtain ⟨c, rfl, hc, _⟩ := plainElem_int_inv Tryz.underlying3 hv
  have e1 := congrArg Prod.fst hc
  simp only at e1
  have e : c = (f x).getD 0 := by
    cases e : f x with
    | none =>
      rw [atKey_of_not_has (by rw [h2.has x hi, e]; rfl)] at e1
      simpa using e1.symm
    | some z =>
      rw [h2.at_ x z hi e] at e1
      simpa using e1.symm
  rw [← e]
  exact hrun
variable {ops : Array Oper} {rest : List Oper} {o : Oper} {a : Act} {Q : Exit → Act → World → Prop}
/-- 'm[x] = z', a new key. -/
theorem storeX (hg : o.guard = none) (mo xo yo : Operand) (t : TypeId) (hop : o.op = Op.mapUpdate t mo xo yo) (ht : Tryz.prog.underlying t = some (.map 3 3))
    (hm : a.eval mo = .map (some b)) (h : MapX w b f m) (x z : Int) (hx : a.eval xo = .int .i64 x) (hy : a.eval yo = .int .i64 z) (hi : I64 x) (hz : I64 z) (hf : f x = none) (hs : m ≤ 1000000)
    (hK : ∀ w', MapX w' b (fun y => if y = x then some z else f y) (m + 1) → w.grownBy w' (some b) → wpList Tryz.prog ops Q rest (a.put o.dst undef) w') : wpList Tryz.prog ops Q (o :: rest) a w := by
  obtain ⟨D, h1, h2, h5⟩ := h
  refine wpList_mapUpdate_own w hg mo xo yo t hop 3 3 keyI ht _ b m D hm h1 (by simp only [maxLen]; omega) _ _ (keyL x) hx hy (keyL_of hi) (.lit (.int .i64 z)) [] (plainElem_int Tryz.underlying3 (wfK hz)) fun w' h3 h4 => ?_
  exact hK w' ⟨_, h3, h2.put keyS_int hi, by rw [sizeX_put h2 (h1.tidy keyI) hi hf, h5]⟩ h4
/-- A map's literal, one key. -/
theorem insertX (hg : o.guard = none) (mo xo yo : Operand) (t : TypeId) (hop : o.op = Op.insert t mo xo yo) (ht : Tryz.prog.underlying t = some (.map 3 3))
    (hm : a.eval mo = .map (some b)) (h : MapX w b f m) (x z : Int) (hx : a.eval xo = .int .i64 x) (hy : a.eval yo = .int .i64 z) (hi : I64 x) (hz : I64 z) (hf : f x = none) (hs : m ≤ 1000000)
    (hK : ∀ w', MapX w' b (fun y => if y = x then some z else f y) (m + 1) → w.grownBy w' (some b) → wpList Tryz.prog ops Q rest (a.put o.dst undef) w') : wpList Tryz.prog ops Q (o :: rest) a w := by
  obtain ⟨D, h1, h2, h5⟩ := h
  refine wpList_plain hg fun K' hK' => ?_
  obtain ⟨w', hrun, r1, r2⟩ := h1.update keyI ht (by simp only [maxLen]; omega) (keyL_of hi) (plainElem_int Tryz.underlying3 (wfK hz))
  unfold Oper.wp
  simp [execOp, hop, hm, hx, hy, hrun, Result.andThen]
  exact hK' _ _ (hK w' ⟨_, r1, h2.put keyS_int hi, by rw [sizeX_put h2 (h1.tidy keyI) hi hf, h5]⟩ r2)
/-- 'len(m)'. -/
theorem lenX (hg : o.guard = none) (mo : Operand) (t : TypeId) (hop : o.op = Op.call { callee := Callee.builtin Builtin.len, args := #[mo], argTypes := #[t] }) (ht : Tryz.prog.underlying t = some (.map 3 3))
    (hm : a.eval mo = .map (some b)) (h : MapX w b f m) (hK : wpList Tryz.prog ops Q rest (a.put o.dst (.int .i64 (m : Int))) w) : wpList Tryz.prog ops Q (o :: rest) a w := by
  obtain ⟨D, h1, _, h5⟩ := h
  refine wpList_len_own w hg mo t hop 3 3 ht _ b m D hm h1 ?_
  rw [h5]
  exact hK
end
end Go.Proofs.YtdlcldhnbhlikaaGreatDoor
