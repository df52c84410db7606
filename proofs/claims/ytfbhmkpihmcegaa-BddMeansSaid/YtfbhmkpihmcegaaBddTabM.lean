/-
  Rows of tables of the call's own.
-/
import Derived.Test.YtfbhmkpihmcegaaBddTabP
namespace Go.Proofs.Ytfbhmkpihmcegaa
open Go.RowKit Go.Maps

theorem tableInfo : (Try.prog.info? 29).map (fun i => (i.zero, i.size, i.bytes)) = some (some (.slice none 0 0), 1, 24) := by kernel_rfl
theorem mk_table (R : Nat) (z : Int) (hz : z = R) (hR : R ≤ 1000000) (w : World) : (Instr.makeSlice 29 (.int .i64 z) (.int .i64 z)).run Try.prog w = .ok (.slice (some ⟨w.heap.size, 0, none⟩) R R) (w.alloc (.cells (boolArr (List.replicate R false)) 4)) := by
  subst hz
  obtain ⟨i0, hi, hz0, hz1, hz2⟩ := info_parts boolInfo
  have h := run_make (P := Try.prog) w 29 4 i0 _ Try.underlying29 hi hz0 .i64 .i64 (R : Int) (R : Int) (by omega) (Int.le_refl _) (by rw [hz2]; omega) (by omega)
  rw [hz1, Int.toNat_natCast, made_bools] at h
  exact h
/-- A table as a value. -/
def tabV (sz g : Nat) : Value := .slice (some ⟨g, 0, none⟩) sz sz
def OwnT (w : World) (base sz : Nat) (v : Value) (gs : List Nat) : Prop := w.ownsRow base 29 1 v gs.length (gs.map (tabV sz))
structure Tabs (w : World) (base sz : Nat) (gs : List Nat) (ts : List (List Bool)) : Prop where
  len : gs.length = ts.length
  is : ∀ k, k < gs.length → base ≤ gs.getD k 0 ∧ Blk w (gs.getD k 0) 4 (boolArr (ts.getD k [])) ∧ (ts.getD k []).length = sz
section
variable {w w' : World} {base sz : Nat} {v : Value} {gs : List Nat} {ts : List (List Bool)}
theorem OwnT.below (h : OwnT w base sz v gs) (hb : Below w.heap.size w w') : OwnT w' base sz v gs :=
  World.ownsRow.kept h (row := none) ⟨hb.os, hb.tape, hb.output, hb.size, fun i hi _ => hb.block i hi⟩ (by cases v.ownBlock <;> simp)
theorem OwnT.form (h : OwnT w base sz v gs) (h0 : 0 < gs.length) : ∃ g cap cur, v = .slice (some ⟨g, 0, none⟩) gs.length cap ∧ base ≤ g ∧ Blk w g 29 cur ∧ gs.length ≤ cap ∧ ∀ k, k < gs.length → cur[k]? = some (tabV sz (gs.getD k 0)) := by
  rcases h.2 with ⟨_, h9⟩ | ⟨g, cap, cur, rfl, hg, hgc, hle, hcm, hcs, hct⟩
  · omega
  · refine ⟨g, cap, cur, rfl, hg, hgc, hle, fun k hk => ?_⟩
    have h1 : (cur.toList.take (gs.length * 1))[k]? = some (tabV sz (gs.getD k 0)) := by
      rw [hct, List.getElem?_map, List.getElem?_eq_getElem hk, List.getD_eq_getElem?_getD, List.getElem?_eq_getElem hk]
      rfl
    rw [List.getElem?_take_of_lt (by omega)] at h1
    simpa using h1
theorem OwnT.set_ (h : OwnT w base sz v gs) {g i : Nat} {u : Value} {cs : Array Value} (hk : Blk w g 4 cs) : OwnT (w.setCell ⟨g, i, none⟩ u) base sz v gs := by
  refine ⟨h.1, ?_⟩
  rcases h.2 with h2 | ⟨g', cap, cur, e, hg, hgc, r⟩
  · exact .inl h2
  · have hgc' : Blk w g' 29 cur := hgc
    exact .inr ⟨g', cap, cur, e, hg, hgc'.far (hgc'.ne_ hk (by decide)) _, r⟩
theorem Tabs.below (h : Tabs w base sz gs ts) (hb : Below w.heap.size w w') : Tabs w' base sz gs ts :=
  ⟨h.len, fun k hk => by
    obtain ⟨h1, h2, h3⟩ := h.is k hk
    exact ⟨h1, h2.below hb h2.lt, h3⟩⟩
theorem Tabs.grown {r : Option Nat} (h : Tabs w base sz gs ts) (hg : w.grownBy w' r) (hr : ∀ k, k < gs.length → some (gs.getD k 0) ≠ r) : Tabs w' base sz gs ts :=
  ⟨h.len, fun k hk => by
    obtain ⟨h1, h2, h3⟩ := h.is k hk
    exact ⟨h1, h2.grown hg (hr k hk), h3⟩⟩
theorem Tabs.push (h : Tabs w base sz gs ts) {g : Nat} {t : List Bool} (hg : base ≤ g) (hk : Blk w g 4 (boolArr t)) (ht : t.length = sz) : Tabs w base sz (gs ++ [g]) (ts ++ [t]) := by
  have hl := h.len
  have g1 : ∀ k, k < gs.length → (gs ++ [g]).getD k 0 = gs.getD k 0 := fun k hk => by
    rw [List.getD_eq_getElem?_getD, List.getD_eq_getElem?_getD, List.getElem?_append_left hk]
  have g2 : ∀ k, k < ts.length → (ts ++ [t]).getD k [] = ts.getD k [] := fun k hk => by
    rw [List.getD_eq_getElem?_getD, List.getD_eq_getElem?_getD, List.getElem?_append_left hk]
  have g3 : (gs ++ [g]).getD gs.length 0 = g := by simp [List.getD_eq_getElem?_getD]
  have g4 : (ts ++ [t]).getD ts.length [] = t := by simp [List.getD_eq_getElem?_getD]
  refine ⟨by simp [hl], fun k hk' => ?_⟩
  rw [List.length_append, List.length_singleton] at hk'
  rcases Nat.lt_or_ge k gs.length with h1 | h1
  · rw [g1 k h1, g2 k (by omega)]; exact h.is k h1
  · rw [show k = gs.length by omega, g3, hl, g4]; exact ⟨hg, hk, ht⟩
end
theorem one_newsT (w : World) (u : Value) (g : Nat) (hc : w.cell? ⟨g, 0, none⟩ = some u) : Reads w (g + 1) 1 (some ⟨g, 0, none⟩) 1 [u] := by
  refine ⟨rfl, fun _ => ⟨_, rfl, Nat.lt_succ_self _, fun j x hx => ?_⟩⟩
  match j, hx with
  | 0, hx => simp at hx; subst hx; simpa [Addr.add] using hc
/-- append of one table, in a plain region. -/
theorem appT (w : World) {ops : Array Oper} {rest : List Oper} {o : Oper} {a : Act} {Q : Exit → Act → World → Prop} (hgd : o.guard = none) (s x : Operand) (t : TypeId)
    (ho : o.op = .call { callee := .builtin .append, args := #[s, x], argTypes := #[t, t] }) (base sz : Nat) (ht : Try.prog.underlying t = some (.slice 29))
    (v : Value) (gs : List Nat) (hs : a.eval s = v) (hown : OwnT w base sz v gs) (b c g : Nat) (hx : a.eval x = .slice (some ⟨b, 0, none⟩) 1 c) (hc : w.cell? ⟨b, 0, none⟩ = some (tabV sz g))
    (hl : gs.length ≤ 1000000) (hbase : base ≤ w.heap.size)
    (h : ∀ v' w', OwnT w' base sz v' (gs ++ [g]) → w.grownBy w' v.ownBlock → wpList Try.prog ops Q rest (a.put o.dst v') w') : wpList Try.prog ops Q (o :: rest) a w := by
  obtain ⟨i0, hi, hz0, hz1, hz2⟩ := info_parts tableInfo
  refine wpList_append_any w hgd s x t ho base 29 i0 (.slice none 0 0) 1 24 ht hi hz0 hz1 hz2 rfl (by decide) v gs.length _ hs hown (b + 1) _ 1 c [tabV sz g] hx (one_newsT w _ b hc) (fun u hu => by rw [List.mem_singleton.1 hu]; rfl) (by simp only [maxLen]; omega) (by omega) hbase ?_
  intro v' w' ho' hg' hor
  refine h v' w' ?_ hg'
  unfold OwnT
  rw [List.length_append, List.map_append]
  exact ho'
theorem ownT_two (w : World) (base sz g1 g2 : Nat) (hb : base ≤ w.heap.size) : OwnT (w.alloc (.cells #[tabV sz g1, tabV sz g2] 29)) base sz (.slice (some ⟨w.heap.size, 0, none⟩) 2 2) [g1, g2] :=
  ⟨rfl, .inr ⟨w.heap.size, 2, #[tabV sz g1, tabV sz g2], rfl, hb, Blk.new w _ _, Nat.le_refl _, by simp [maxLen], rfl, rfl⟩⟩
end Go.Proofs.Ytfbhmkpihmcegaa
