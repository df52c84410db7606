/-
  A map[int]int of the call's own: 'MapF' (it reads as the function f), 'MapT' (of each variable 1, -1 or 0 by the literals told).
-/
import Derived.Test.YtkkgdlfjblmbjaaDoorStuck
import Derived.Maps.OwnOps
import Derived.Maps.Views
import Derived.Maps.OwnSet
namespace Go.Proofs.YtkkgdlfjblmbjaaDoor
open Go.RowKit Go.Maps

theorem keyInt : Keyed Tryd.prog 3 := int_keyed Tryd.underlying3
theorem zeroInt (w : World) : (zeroValue 3).run Tryd.prog w = .ok (.int .i64 0) w := by kernel_rfl
theorem wfI {z : Int} (h : I64 z) : (Lit.int .i64 z).wf = true := WalkArith.wf_i64 (by unfold I64 at h; omega)

/-- All keys are 1 .. 24. -/
def KeysIn (D : DataW Unit) : Prop := ∃ es, D = .map es ∧ ∀ p ∈ es, ∃ v : Int, p.1 = .int .i64 v ∧ 1 ≤ v ∧ v ≤ 24
theorem KeysIn.put {D : DataW Unit} (h : KeysIn D) {v : Int} (h1 : 1 ≤ v) (h2 : v ≤ 24) (d : DataW Unit) : KeysIn (D.put (.int .i64 v) d) := by
  obtain ⟨es, rfl, hk⟩ := h
  refine ⟨_, rfl, fun p hp => ?_⟩
  rcases ChangeMaps.mem_insert_iff.1 hp with e | hp
  · rw [e]; exact ⟨v, rfl, h1, h2⟩
  · exact hk p (List.mem_filter.1 hp).1
theorem KeysIn.len {es : List (Lit × DataW Unit)} (h : KeysIn (.map es)) (ht : es.Pairwise (fun p q => p.1 ≠ q.1)) : es.length ≤ 24 := by
  obtain ⟨es', e, hk⟩ := h
  injection e with e
  subst e
  let g : Lit × DataW Unit → Nat := fun p => match p.1 with | .int _ v => v.toNat - 1 | _ => 0
  have hn : (es.map g).Nodup := by
    rw [List.Nodup, List.pairwise_map]
    refine ht.imp_of_mem fun {a b} ha hb hab e => ?_
    obtain ⟨x, hx, x1, x2⟩ := hk a ha
    obtain ⟨y, hy, y1, y2⟩ := hk b hb
    have e' : x.toNat - 1 = y.toNat - 1 := by
      have := e
      simp only [g, hx, hy] at this
      exact this
    exact hab (by rw [hx, hy, show x = y by omega])
  have := nodup_le 24 _ hn fun x hx => by
    obtain ⟨a, ha, rfl⟩ := List.mem_map.1 hx
    obtain ⟨v, hv, v1, v2⟩ := hk a ha
    simp only [g, hv]
    omega
  simpa using this

/-- The map in block B reads as f; its keys are 1 .. 24. -/
def MapF (w : World) (B : Nat) (f : Int → Int) : Prop :=
  ∃ D : DataW Unit, w.ownsMap Tryd.prog 3 (plainElem Tryd.prog 3) B 24 D ∧ KeysIn D ∧ ∀ v, I64 v → D.atKey (.int .i64 v) (.lit (.int .i64 0)) = .lit (.int .i64 (f v))
theorem own_24 {w : World} {B n : Nat} {D : DataW Unit} (h : w.ownsMap Tryd.prog 3 (plainElem Tryd.prog 3) B n D) (hk : KeysIn D) : w.ownsMap Tryd.prog 3 (plainElem Tryd.prog 3) B 24 D := by
  obtain ⟨l, hl, ht⟩ := h.tidy keyInt
  subst hl
  have hlen := hk.len ht
  obtain ⟨es, clock, h1, h2, _, h4⟩ := h
  refine ⟨es, clock, h1, h2, ?_, h4⟩
  injection h4 with h4
  rw [h4, length_sorted] at hlen
  simpa using hlen
theorem mapF_made (w : World) : MapF (w.alloc (.map #[] 0)) w.heap.size (fun _ => 0) := ⟨_, (World.ownsMap_made _ _ _ _).mono (Nat.zero_le _), ⟨[], rfl, by simp⟩, fun _ _ => rfl⟩
theorem MapF.kept {w w' : World} {B : Nat} {f : Int → Int} {row : Option Nat} (h : MapF w B f) (hg : w.grownBy w' row) (hne : some B ≠ row) : MapF w' B f := by
  obtain ⟨D, h1, h2⟩ := h
  exact ⟨D, h1.kept hg hne, h2⟩
theorem MapF.lt {w : World} {B : Nat} {f : Int → Int} (h : MapF w B f) : B < w.heap.size := by
  obtain ⟨D, h1, h2⟩ := h
  exact h1.lt

theorem litT_two {tr : List Int} {x : Int} (hx : litOk x) (h1 : x ∉ tr) (h2 : -x ∉ tr) (v : Int) (hv : 1 ≤ v) :
    litT (tr ++ [x]) v = if v = (if x < 0 then -x else x) then (if x < 0 then -1 else 1) else litT tr v := by
  unfold litT
  simp only [List.mem_append, List.mem_singleton]
  rcases hx with hx | hx
  · rw [if_neg (show ¬ x < 0 by omega), if_neg (show ¬ x < 0 by omega)]
    by_cases e : v = x
    · subst e; simp
    · rw [if_neg e]
      have : ¬ (-v = x) := by omega
      simp [e, this]
  · rw [if_pos (show x < 0 by omega), if_pos (show x < 0 by omega)]
    by_cases e : v = -x
    · have e1 : ¬ (v = x) := by omega
      have e2 : -v = x := by omega
      simp [e, h2]
      omega
    · rw [if_neg e]
      have e1 : ¬ (v = x) := by omega
      have e2 : ¬ (-v = x) := by omega
      simp [e1, e2]

/-- Of each variable the map tells 1, -1 or 0, as the literals tr say. -/
def MapT (w : World) (B : Nat) (tr : List Int) : Prop := ∃ f, MapF w B f ∧ ∀ v, 1 ≤ v → v ≤ 24 → f v = litT tr v
theorem mapT_made (w : World) : MapT (w.alloc (.map #[] 0)) w.heap.size [] := ⟨_, mapF_made w, fun _ _ _ => rfl⟩
theorem MapT.kept {w w' : World} {B : Nat} {tr : List Int} {row : Option Nat} (h : MapT w B tr) (hg : w.grownBy w' row) (hne : some B ≠ row) : MapT w' B tr := by
  obtain ⟨f, h1, h2⟩ := h
  exact ⟨f, h1.kept hg hne, h2⟩
theorem MapT.lt {w : World} {B : Nat} {tr : List Int} (h : MapT w B tr) : B < w.heap.size := by
  obtain ⟨f, h1, _⟩ := h
  exact h1.lt

theorem lookT {w : World} {ops : Array Oper} {rest : List Oper} {o : Oper} {a : Act} {Q : Exit → Act → World → Prop} (hg : o.guard = none) (m x : Operand) (t : TypeId) (hop : o.op = Op.lookup t m x false)
    (ht : Tryd.prog.underlying t = some (.map 3 3)) {B : Nat} {tr : List Int} (hm : a.eval m = .map (some B)) (hown : MapT w B tr) (v : Int) (hx : a.eval x = .int .i64 v) (h1 : 1 ≤ v) (h2 : v ≤ 24)
    (hK : wpList Tryd.prog ops Q rest (a.put o.dst (.int .i64 (litT tr v))) w) : wpList Tryd.prog ops Q (o :: rest) a w := by
  obtain ⟨f, ⟨D, hD, _, hf⟩, hft⟩ := hown
  have hv : I64 v := by unfold I64; omega
  refine wpList_lookup_own_int w hg m x t hop 3 3 .i64 keyInt ht Tryd.underlying3 (zeroInt w) B 24 D hm hD _ _ hx (keyOf_int_mk Tryd.underlying3 (wfI hv)) ?_
  intro c hat _
  rw [hf v hv, hft v h1 h2] at hat
  simp only [DataW.lit.injEq, Lit.int.injEq, true_and] at hat
  rw [← hat]
  exact hK

theorem lookZ {w : World} {ops : Array Oper} {rest : List Oper} {o : Oper} {a : Act} {Q : Exit → Act → World → Prop} (hg : o.guard = none) (m x : Operand) (t : TypeId) (hop : o.op = Op.lookup t m x false)
    (ht : Tryd.prog.underlying t = some (.map 3 3)) {B : Nat} {tr : List Int} (hm : a.eval m = .map (some B)) (hown : MapT w B tr) (v z : Int) (hx : a.eval x = .int .i64 v) (h1 : 1 ≤ v) (h2 : v ≤ 24) (hz : litT tr v = z)
    (hK : wpList Tryd.prog ops Q rest (a.put o.dst (.int .i64 z)) w) : wpList Tryd.prog ops Q (o :: rest) a w :=
  lookT hg m x t hop ht hm hown v hx h1 h2 (hz ▸ hK)
theorem litT_pos_none {tr : List Int} {x : Int} (h : x ∉ tr) (h' : -x ∉ tr) : litT tr (-x) = 0 := litT_none h' (by rw [Int.neg_neg]; exact h)
theorem litT_neg_mem {tr : List Int} (hc : Cons tr) {x : Int} (h : x ∈ tr) : litT tr (-x) = -1 := litT_neg (hc.no_both h) (by rw [Int.neg_neg]; exact h)

theorem storeF {w : World} {ops : Array Oper} {rest : List Oper} {o : Oper} {a : Act} {Q : Exit → Act → World → Prop} (hg : o.guard = none) (m x y : Operand) (t : TypeId) (hop : o.op = Op.mapUpdate t m x y)
    (ht : Tryd.prog.underlying t = some (.map 3 3)) {B : Nat} {f : Int → Int} (hm : a.eval m = .map (some B)) (hown : MapF w B f) (v z : Int) (hx : a.eval x = .int .i64 v) (hy : a.eval y = .int .i64 z) (hv1 : 1 ≤ v) (hv2 : v ≤ 24) (hz : I64 z)
    (hK : ∀ w', MapF w' B (fun u => if u = v then z else f u) → w.grownBy w' (some B) → wpList Tryd.prog ops Q rest (a.put o.dst undef) w') : wpList Tryd.prog ops Q (o :: rest) a w := by
  obtain ⟨D, hD, hk, hf⟩ := hown
  have hv : I64 v := by unfold I64; omega
  refine wpList_mapUpdate_own w hg m x y t hop 3 3 keyInt ht _ B 24 D hm hD (by decide) _ _ _ hx hy (keyOf_int_mk Tryd.underlying3 (wfI hv)) _ [] (plainElem_int Tryd.underlying3 (wfI hz)) ?_
  intro w' h1 h2
  refine hK w' ⟨_, own_24 h1 (hk.put hv1 hv2 _), hk.put hv1 hv2 _, fun u hu => ?_⟩ h2
  by_cases e : u = v
  · subst e
    simp only [if_true]
    exact atKey_put_same hD.isMap (show WideAt.IsKeyLit (.int .i64 u) from trivial) _ _
  · simp only
    rw [if_neg e, atKey_put_other (by intro k; injection k with _ k; exact e k)]
    exact hf u hu

/-- The variable's first value. -/
theorem storeT {w : World} {ops : Array Oper} {rest : List Oper} {o : Oper} {a : Act} {Q : Exit → Act → World → Prop} (hg : o.guard = none) (m x y : Operand) (t : TypeId) (hop : o.op = Op.mapUpdate t m x y)
    (ht : Tryd.prog.underlying t = some (.map 3 3)) {B : Nat} {tr : List Int} (hm : a.eval m = .map (some B)) (hown : MapT w B tr) (l v z : Int) (hx : a.eval x = .int .i64 v) (hy : a.eval y = .int .i64 z)
    (hl : litOk l) (hv : v = if l < 0 then -l else l) (hz : z = if l < 0 then -1 else 1) (h1 : l ∉ tr) (h2 : -l ∉ tr)
    (hK : ∀ w', MapT w' B (tr ++ [l]) → w.grownBy w' (some B) → wpList Tryd.prog ops Q rest (a.put o.dst undef) w') : wpList Tryd.prog ops Q (o :: rest) a w := by
  obtain ⟨f, hF, hft⟩ := hown
  refine storeF hg m x y t hop ht hm hF v z hx hy (by rw [hv]; rcases hl with h | h <;> split <;> omega) (by rw [hv]; rcases hl with h | h <;> split <;> omega) (by rw [hz]; unfold I64; split <;> omega) fun w' hw hg' => hK w' ⟨_, hw, fun u hu1 hu2 => ?_⟩ hg'
  rw [litT_two hl h1 h2 u hu1, ← hv, ← hz, hft u hu1 hu2]
/-- A value that it has. -/
theorem storeT2 {w : World} {ops : Array Oper} {rest : List Oper} {o : Oper} {a : Act} {Q : Exit → Act → World → Prop} (hg : o.guard = none) (m x y : Operand) (t : TypeId) (hop : o.op = Op.mapUpdate t m x y)
    (ht : Tryd.prog.underlying t = some (.map 3 3)) {B : Nat} {tr : List Int} (hm : a.eval m = .map (some B)) (hown : MapT w B tr) (l v z : Int) (hx : a.eval x = .int .i64 v) (hy : a.eval y = .int .i64 z)
    (hl : litOk l) (hv : v = if l < 0 then -l else l) (hz : z = if l < 0 then -1 else 1) (h1 : l ∈ tr) (h2 : -l ∉ tr)
    (hK : ∀ w', MapT w' B tr → w.grownBy w' (some B) → wpList Tryd.prog ops Q rest (a.put o.dst undef) w') : wpList Tryd.prog ops Q (o :: rest) a w := by
  obtain ⟨f, hF, hft⟩ := hown
  refine storeF hg m x y t hop ht hm hF v z hx hy (by rw [hv]; rcases hl with h | h <;> split <;> omega) (by rw [hv]; rcases hl with h | h <;> split <;> omega) (by rw [hz]; unfold I64; split <;> omega) fun w' hw hg' => hK w' ⟨_, hw, fun u hu1 hu2 => ?_⟩ hg'
  by_cases e : u = v
  · rw [if_pos e, e, hz, hv]
    by_cases hneg : l < 0
    · rw [if_pos hneg, if_pos hneg, litT_neg h2 (by rw [Int.neg_neg]; exact h1)]
    · rw [if_neg hneg, if_neg hneg, litT_mem h1]
  · rw [if_neg e]; exact hft u hu1 hu2
end Go.Proofs.YtkkgdlfjblmbjaaDoor
