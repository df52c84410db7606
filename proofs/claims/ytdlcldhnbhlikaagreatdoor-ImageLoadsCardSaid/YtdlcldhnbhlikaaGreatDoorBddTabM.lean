/-
  Functions as tables, and why handles are like just if their tables are. No program in sight. Rows of tables of the call's own. Whether two tables are the same: the document's Same.
-/
import Derived.Test.YtdlcldhnbhlikaaGreatDoorBddFunP
namespace Go.Proofs.YtdlcldhnbhlikaaGreatDoor
open Go.RowKit

/-- The values that a place in a table stands for. -/
def valN (i : Nat) : Int → Bool := fun x => decide (0 ≤ x) && i.testBit x.toNat
def tabF (sz : Nat) (F : FnB) : List Bool := (List.range sz).map fun i => F (valN i)
theorem tab_len (sz : Nat) (F : FnB) : (tabF sz F).length = sz := by unfold tabF; simp
theorem tab_at {sz i : Nat} (F : FnB) (hi : i < sz) : (tabF sz F).getD i false = F (valN i) := by
  unfold tabF
  rw [List.getD_eq_getElem?_getD, List.getElem?_map, List.getElem?_eq_getElem (by simp [hi])]
  simp
theorem tab_eq {sz : Nat} {F : FnB} {us : List Bool} (hl : us.length = sz) (h : ∀ i, i < sz → us.getD i false = F (valN i)) : us = tabF sz F := by
  refine List.ext_getElem? fun i => ?_
  rcases Nat.lt_or_ge i sz with hi | hi
  · have h1 := h i hi
    have h2 := tab_at F hi
    rw [List.getD_eq_getElem?_getD, List.getElem?_eq_getElem (by omega)] at h1
    rw [List.getD_eq_getElem?_getD, List.getElem?_eq_getElem (by rw [tab_len]; omega)] at h2
    rw [List.getElem?_eq_getElem (by omega), List.getElem?_eq_getElem (by rw [tab_len]; omega)]
    simp only [Option.getD_some] at h1 h2
    rw [h1, h2]
  · rw [List.getElem?_eq_none (by omega), List.getElem?_eq_none (by rw [tab_len]; omega)]
theorem tab_inj {sz : Nat} {F G : FnB} : tabF sz F = tabF sz G ↔ ∀ i, i < sz → F (valN i) = G (valN i) := by
  constructor
  · intro h i hi
    rw [← tab_at F hi, ← tab_at G hi, h]
  · intro h
    exact tab_eq (tab_len sz F) fun i hi => (tab_at F hi).trans (h i hi)
def onN (i v : Nat) : Nat := i ||| 2 ^ v
def offN (i v : Nat) : Nat := i ^^^ (i &&& 2 ^ v)
theorem on_lt {i v n : Nat} (hi : i < 2 ^ n) (hv : v < n) : onN i v < 2 ^ n := Nat.or_lt_two_pow hi (Nat.pow_lt_pow_right (by omega) hv)
theorem off_lt {i v n : Nat} (hi : i < 2 ^ n) : offN i v < 2 ^ n := Nat.xor_lt_two_pow hi (Nat.lt_of_le_of_lt Nat.and_le_left hi)
theorem val_on (i v : Nat) : valN (onN i v) = upd (valN i) (v : Int) true := by
  funext y
  unfold valN upd onN
  by_cases h0 : 0 ≤ y
  · obtain ⟨k, rfl⟩ : ∃ k : Nat, y = (k : Int) := ⟨y.toNat, by omega⟩
    rw [Nat.testBit_or, Nat.testBit_two_pow]
    by_cases h : k = v
    · subst h; simp
    · rw [if_neg (by omega)]; simp [show ¬ v = k by omega]
  · rw [if_neg (by omega)]; simp [h0]
theorem val_off (i v : Nat) : valN (offN i v) = upd (valN i) (v : Int) false := by
  funext y
  unfold valN upd offN
  by_cases h0 : 0 ≤ y
  · obtain ⟨k, rfl⟩ : ∃ k : Nat, y = (k : Int) := ⟨y.toNat, by omega⟩
    rw [Nat.testBit_xor, Nat.testBit_and, Nat.testBit_two_pow]
    by_cases h : k = v
    · subst h; simp
    · rw [if_neg (by omega)]; simp [show ¬ v = k by omega]
  · rw [if_neg (by omega)]; simp [h0]
/-- The place of values. -/
def idxN (u : Int → Bool) : Nat → Nat
  | 0 => 0
  | k + 1 => (if u (k : Int) then 2 ^ k else 0) ||| idxN u k
theorem idx_is (u : Int → Bool) : ∀ k, idxN u k < 2 ^ k ∧ ∀ y, y < k → (idxN u k).testBit y = u (y : Int)
  | 0 => ⟨by show 0 < 1; omega, fun y hy => absurd hy (Nat.not_lt_zero y)⟩
  | k + 1 => by
    obtain ⟨h1, h2⟩ := idx_is u k
    have h3 : (if u (k : Int) then 2 ^ k else 0) < 2 ^ (k + 1) := by
      split
      · exact Nat.pow_lt_pow_right (by omega) (by omega)
      · exact Nat.two_pow_pos _
    refine ⟨Nat.or_lt_two_pow h3 (Nat.lt_trans h1 (Nat.pow_lt_pow_right (by omega) (by omega))), fun y hy => ?_⟩
    show ((if u (k : Int) then 2 ^ k else 0) ||| idxN u k).testBit y = _
    rw [Nat.testBit_or]
    by_cases hyk : y = k
    · subst hyk
      rw [Nat.testBit_lt_two_pow h1]
      cases hu : u (y : Int)
      · simp
      · simp
    · rw [h2 y (by omega)]
      cases hu : u (k : Int)
      · simp
      · simp [show ¬ k = y by omega]
section
variable {A : Ar} {vn : Nat} {h k : Int}
/-- Only a space's variables matter. -/
theorem den_var (hs : SpA A (vn : Int)) {v u : Int → Bool} (hx : ∀ x, 0 ≤ x → x < (vn : Int) → v x = u x) : ∀ (n : Nat) (h : Int), dep A h ≤ n → den A h v = den A h u := by
  intro n
  induction n with
  | zero =>
    intro h h1
    have hn : gotA A h = none := by
      cases e : gotA A h with
      | none => rfl
      | some d => have := hs.wf.dep e; unfold dep at h1; omega
    rw [den_none hn, den_none hn]
  | succ n ih =>
    intro h h1
    cases e : gotA A h with
    | none => rw [den_none e, den_none e]
    | some d =>
      have ht := hs.wf.dep e
      have hk := (hs.wf.kid e (v d.var)).1
      have he := top_some e
      have hl := hs.lt e
      unfold dep at h1
      rw [den_some hs.wf e, den_some hs.wf e, ← hx d.var hl.1 hl.2]
      exact ih _ (by unfold dep; omega)
/-- BRYANT, by tables. -/
theorem same_iff (hs : SpA A (vn : Int)) (p : hasA A h = true) (q : hasA A k = true) {F G : FnB} (hF : ∀ u, den A h u = F u) (hG : ∀ u, den A k u = G u) : h = k ↔ tabF (2 ^ vn) F = tabF (2 ^ vn) G := by
  rw [tab_inj]
  constructor
  · rintro rfl i _
    rw [← hF, ← hG]
  · intro ht
    refine den_inj hs.wf hs.red _ h k (Nat.le_max_left (dep A h) (dep A k)) (Nat.le_max_right _ _) p q fun v => ?_
    obtain ⟨h1, h2⟩ := idx_is v vn
    have hv : ∀ x, 0 ≤ x → x < (vn : Int) → v x = valN (idxN v vn) x := fun x h0 hx => by
      obtain ⟨y, rfl⟩ : ∃ y : Nat, x = (y : Int) := ⟨x.toNat, by omega⟩
      unfold valN
      rw [decide_eq_true h0, Int.toNat_natCast, h2 y (by omega)]
      rfl
    rw [den_var hs hv _ h (Nat.le_refl _), den_var hs hv _ k (Nat.le_refl _), hF, hG]
    exact ht _ h1
end
theorem offB : ∀ jv, jv < 6 → ∀ k, k < 64 → bits BinOp.andNot IntKind.i64 ((k : Nat) : Int) ((2 ^ jv : Nat) : Int) = ((offN k jv : Nat) : Int) := by decide +kernel
theorem onB : ∀ jv, jv < 6 → ∀ k, k < 64 → bits BinOp.or IntKind.i64 ((k : Nat) : Int) ((2 ^ jv : Nat) : Int) = ((onN k jv : Nat) : Int) := by decide +kernel
theorem litB : ∀ ja, ja < 6 → ∀ k, k < 64 → (bits BinOp.and IntKind.i64 (((k : Nat) : Int) / 2 ^ ja) 1 == 1) = Nat.testBit k ja := by decide +kernel
theorem powB : ∀ jv, jv < 6 → wrap64 (2 ^ jv) = ((2 ^ jv : Nat) : Int) := by decide +kernel
theorem powW : ∀ jv, jv < 6 → IntKind.i64.wrap (2 ^ jv) = ((2 ^ jv : Nat) : Int) := by decide +kernel
end Go.Proofs.YtdlcldhnbhlikaaGreatDoor
namespace Go.Proofs.YtdlcldhnbhlikaaGreatDoor
open Go.RowKit Go.Maps

theorem tableInfo : (Tryz.prog.info? 35).map (fun i => (i.zero, i.size, i.bytes)) = some (some (.slice none 0 0), 1, 24) := by kernel_rfl
theorem mk_table (R : Nat) (z : Int) (hz : z = R) (hR : R ≤ 1000000) (w : World) : (Instr.makeSlice 35 (.int .i64 z) (.int .i64 z)).run Tryz.prog w = .ok (.slice (some ⟨w.heap.size, 0, none⟩) R R) (w.alloc (.cells (boolArr (List.replicate R false)) 4)) := by
  subst hz
  obtain ⟨i0, hi, hz0, hz1, hz2⟩ := info_parts boolInfo
  have h := run_make (P := Tryz.prog) w 35 4 i0 _ Tryz.underlying35 hi hz0 .i64 .i64 (R : Int) (R : Int) (by omega) (Int.le_refl _) (by rw [hz2]; omega) (by omega)
  rw [hz1, Int.toNat_natCast, made_bools] at h
  exact h
/-- A table as a value. -/
def tabV (sz g : Nat) : Value := .slice (some ⟨g, 0, none⟩) sz sz
def OwnT (w : World) (base sz : Nat) (v : Value) (gs : List Nat) : Prop := w.ownsRow base 35 1 v gs.length (gs.map (tabV sz))
structure Tabs (w : World) (base sz : Nat) (gs : List Nat) (ts : List (List Bool)) : Prop where
  len : gs.length = ts.length
  is : ∀ k, k < gs.length → base ≤ gs.getD k 0 ∧ Blk w (gs.getD k 0) 4 (boolArr (ts.getD k [])) ∧ (ts.getD k []).length = sz
section
variable {w w' : World} {base sz : Nat} {v : Value} {gs : List Nat} {ts : List (List Bool)}
theorem OwnT.below (h : OwnT w base sz v gs) (hb : Below w.heap.size w w') : OwnT w' base sz v gs :=
  World.ownsRow.kept h (row := none) ⟨hb.os, hb.tape, hb.output, hb.size, fun i hi _ => hb.block i hi⟩ (by cases v.ownBlock <;> simp)
theorem OwnT.form (h : OwnT w base sz v gs) (h0 : 0 < gs.length) : ∃ g cap cur, v = .slice (some ⟨g, 0, none⟩) gs.length cap ∧ base ≤ g ∧ Blk w g 35 cur ∧ gs.length ≤ cap ∧ ∀ k, k < gs.length → cur[k]? = some (tabV sz (gs.getD k 0)) := by
  rcases h.2 with ⟨_, h9⟩ | ⟨g, cap, cur, rfl, hg, hgc, hle, hcm, hcs, hct⟩
  · omega
  · refine ⟨g, cap, cur, rfl, hg, hgc, hle, fun k hk => ?_⟩
    have h1 : (cur.toList.take (gs.length * 1))[k]? = some (tabV sz (gs.getD k 0)) := by
      rw [hct, List.getElem?_map, List.getElem?_eq_getElem hk, List.getD_eq_getElem?_getD, List.getElem?_eq_getElem hk]
      rfl
    rw [List.getElem?_take_of_lt (by omega)] at h1
    simpa using h1
theorem OwnT.set_ (h : OwnT w base sz v gs) {g i : Nat} {u : Value} {cs : Array Value} (hk : Blk w g 4 cs) : OwnT (w.setCell ⟨g, i, none⟩ u) base sz v gs := by
  refine ⟨h.1, ?_⟩
  rcases h.2 with h2 | ⟨g', cap, cur, e, hg, hgc, r⟩
  · exact .inl h2
  · have hgc' : Blk w g' 35 cur := hgc
    exact .inr ⟨g', cap, cur, e, hg, hgc'.far (hgc'.ne_ hk (by decide)) _, r⟩
theorem Tabs.below (h : Tabs w base sz gs ts) (hb : Below w.heap.size w w') : Tabs w' base sz gs ts :=
  ⟨h.len, fun k hk => by
    obtain ⟨h1, h2, h3⟩ := h.is k hk
    exact ⟨h1, h2.below hb h2.lt, h3⟩⟩
theorem Tabs.grown {r : Option Nat} (h : Tabs w base sz gs ts) (hg : w.grownBy w' r) (hr : ∀ k, k < gs.length → some (gs.getD k 0) ≠ r) : Tabs w' base sz gs ts :=
  ⟨h.len, fun k hk => by
    obtain ⟨h1, h2, h3⟩ := h.is k hk
    exact ⟨h1, h2.grown hg (hr k hk), h3⟩⟩
theorem Tabs.push (h : Tabs w base sz gs ts) {g : Nat} {t : List Bool} (hg : base ≤ g) (hk : Blk w g 4 (boolArr t)) (ht : t.length = sz) : Tabs w base sz (gs ++ [g]) (ts ++ [t]) := by
  have hl := h.len
  have g1 : ∀ k, k < gs.length → (gs ++ [g]).getD k 0 = gs.getD k 0 := fun k hk => by
    rw [List.getD_eq_getElem?_getD, List.getD_eq_getElem?_getD, List.getElem?_append_left hk]
  have g2 : ∀ k, k < ts.length → (ts ++ [t]).getD k [] = ts.getD k [] := fun k hk => by
    rw [List.getD_eq_getElem?_getD, List.getD_eq_getElem?_getD, List.getElem?_append_left hk]
  have g3 : (gs ++ [g]).getD gs.length 0 = g := by simp [List.getD_eq_getElem?_getD]
  have g4 : (ts ++ [t]).getD ts.length [] = t := by simp [List.getD_eq_getElem?_getD]
  refine ⟨by simp [hl], fun k hk' => ?_⟩
  rw [List.length_append, List.length_singleton] at hk'
  rcases Nat.lt_or_ge k gs.length with h1 | h1
  · rw [g1 k h1, g2 k (by omega)]; exact h.is k h1
  · rw [show k = gs.length by omega, g3, hl, g4]; exact ⟨hg, hk, ht⟩
end
theorem one_newsT (w : World) (u : Value) (g : Nat) (hc : w.cell? ⟨g, 0, none⟩ = some u) : Reads w (g + 1) 1 (some ⟨g, 0, none⟩) 1 [u] := by
  refine ⟨rfl, fun _ => ⟨_, rfl, Nat.lt_succ_self _, fun j x hx => ?_⟩⟩
  match j, hx with
  | 0, hx => simp at hx; subst hx; simpa [Addr.add] using hc
/-- append of one table, in a plain region. -/
theorem appT (w : World) {ops : Array Oper} {rest : List Oper} {o : Oper} {a : Act} {Q : Exit → Act → World → Prop} (hgd : o.guard = none) (s x : Operand) (t : TypeId)
    (ho : o.op = .call { callee := .builtin .append, args := #[s, x], argTypes := #[t, t] }) (base sz : Nat) (ht : Tryz.prog.underlying t = some (.slice 35))
    (v : Value) (gs : List Nat) (hs : a.eval s = v) (hown : OwnT w base sz v gs) (b c g : Nat) (hx : a.eval x = .slice (some ⟨b, 0, none⟩) 1 c) (hc : w.cell? ⟨b, 0, none⟩ = some (tabV sz g))
    (hl : gs.length ≤ 1000000) (hbase : base ≤ w.heap.size)
    (h : ∀ v' w', OwnT w' base sz v' (gs ++ [g]) → w.grownBy w' v.ownBlock → wpList Tryz.prog ops Q rest (a.put o.dst v') w') : wpList Tryz.prog ops Q (o :: rest) a w := by
  obtain ⟨i0, hi, hz0, hz1, hz2⟩ := info_parts tableInfo
  refine wpList_append_any w hgd s x t ho base 35 i0 (.slice none 0 0) 1 24 ht hi hz0 hz1 hz2 rfl (by decide) v gs.length _ hs hown (b + 1) _ 1 c [tabV sz g] hx (one_newsT w _ b hc) (fun u hu => by rw [List.mem_singleton.1 hu]; rfl) (by simp only [maxLen]; omega) (by omega) hbase ?_
  intro v' w' ho' hg' hor
  refine h v' w' ?_ hg'
  unfold OwnT
  rw [List.length_append, List.map_append]
  exact ho'
theorem ownT_two (w : World) (base sz g1 g2 : Nat) (hb : base ≤ w.heap.size) : OwnT (w.alloc (.cells #[tabV sz g1, tabV sz g2] 35)) base sz (.slice (some ⟨w.heap.size, 0, none⟩) 2 2) [g1, g2] :=
  ⟨rfl, .inr ⟨w.heap.size, 2, #[tabV sz g1, tabV sz g2], rfl, hb, Blk.new w _ _, Nat.le_refl _, by simp [maxLen], rfl, rfl⟩⟩
end Go.Proofs.YtdlcldhnbhlikaaGreatDoor
namespace Go.Proofs.YtdlcldhnbhlikaaGreatDoor
open Go.RowKit Go.Maps

def QuietB (w : World) (b : Bool) (e : Ending) (w' : World) : Prop := e = .returned (.bool b) ∧ ∃ m, w' = w.drewN m
theorem list_same {t u : List Bool} (hl : t.length = u.length) (h : ∀ j, j < t.length → t.getD j false = u.getD j false) : t = u := by
  refine List.ext_getElem? fun j => ?_
  rcases Nat.lt_or_ge j t.length with hj | hj
  · have := h j hj
    rw [List.getD_eq_getElem?_getD, List.getD_eq_getElem?_getD, List.getElem?_eq_getElem hj, List.getElem?_eq_getElem (by omega)] at this
    rw [List.getElem?_eq_getElem hj, List.getElem?_eq_getElem (by omega)]
    simpa using this
  · rw [List.getElem?_eq_none hj, List.getElem?_eq_none (by omega)]
set_option maxRecDepth 100000 in
theorem tabSame_any (sz p1 p2 : Nat) (t u : List Bool) (w : World) (k1 : Blk w p1 4 (boolArr t)) (k2 : Blk w p2 4 (boolArr u)) (h1 : t.length = sz) (h2 : u.length = sz) (hs : sz ≤ 64) :
    Calls Tryz.prog 42 #[tabV sz p1, tabV sz p2] w (QuietB w (decide (t = u))) := by
  unfold tabV
  have K1 := hide k1
  have K2 := hide k2
  clear k1 k2
  go_enter Tryz.func42, Tryz.ntmps42
  go_wp2
  go_loopw [8] (fun iv wr => ∃ i : Nat, i ≤ sz ∧ iv = .int .i64 i ∧ (∀ j, j < i → t.getD j false = u.getD j false) ∧ ∃ m, wr = w.drewN m) (fun iv _ => sz - (intOf iv).toNat)
  case atStart => exact ⟨0, Nat.zero_le _, rfl, fun j hj => absurd hj (Nat.not_lt_zero j), 0, rfl⟩
  case round =>
    obtain ⟨i, hi, rfl, hE, m, hm⟩ := hrel
    have K1m := hide (show Blk wr p1 4 (boolArr t) by rw [hm]; exact K1.out.drewN m)
    have K2m := hide (show Blk wr p2 4 (boolArr u) by rw [hm]; exact K2.out.drewN m)
    have HM := Lib.hid hm
    clear hm
    by_cases hlt : i < sz
    · have hiI : (i : Int) < (sz : Int) := by omega
      have c1 := (K1m.out.cell i).trans (boolArr_at (by omega))
      have c2 := (K2m.out.cell i).trans (boolArr_at (by omega))
      have HE := Lib.hid hE
      clear hE
      by_cases hx : t.getD i false = u.getD i false
      · have HE2 := Lib.hid (show ∀ j, j < i + 1 → t.getD j false = u.getD j false from fun j hj => by
          rcases Nat.lt_or_ge j i with h | h
          · exact HE.out j h
          · rw [show j = i by omega]; exact hx)
        rw [← hx] at c2
        clear hx HE
        generalize t.getD i false = b at c1 c2
        go_wp2
        go_quiet (fail)
        go_wp2
        go_roundw
        case rel => exact ⟨i + 1, by omega, by go_num, HE2.out, m + nq, by rw [HM.out, World.drewN_drewN]⟩
        case measure => simp [intOf]; omega
      · have HNE := Lib.hid (decide_eq_false (p := t = u) fun e => hx (by rw [e]))
        have hb : u.getD i false = !(t.getD i false) := by cases h3 : t.getD i false <;> cases h4 : u.getD i false <;> simp_all
        rw [hb] at c2
        clear hx HE hb
        generalize t.getD i false = b at c1 c2
        cases b
        all_goals
          simp only [Bool.not_false, Bool.not_true] at c2
          go_wp2
          go_quiet (fail)
          go_wp2
          go_ret
          exact ⟨by rw [HNE.out]; rfl, m + nq, by rw [HM.out, World.drewN_drewN]⟩
    · obtain rfl : i = sz := by omega
      have HNE := Lib.hid (decide_eq_true (p := t = u) (list_same (by omega) (by rw [h1]; exact hE)))
      clear hE
      go_wp2
      go_ret
      exact ⟨by rw [HNE.out]; rfl, m, HM.out⟩
end Go.Proofs.YtdlcldhnbhlikaaGreatDoor
