/-
  Rows of uints of the call's own. The law's sameSets.
-/
import Derived.Test.YtdlcldhnbhlikaaDoorArenaReach
namespace Go.Proofs.YtdlcldhnbhlikaaDoor
open Go.RowKit

def uintsV (zs : List Nat) : List Value := zs.map fun x : Nat => Value.int .u64 (x : Int)
def OwnU (w : World) (base : Nat) (v : Value) (zs : List Nat) : Prop := w.ownsRow base 22 1 v zs.length (uintsV zs)
section
variable {w w' : World} {base : Nat} {v : Value} {zs : List Nat}
theorem OwnU.below (h : OwnU w base v zs) (hb : Below w.heap.size w w') : OwnU w' base v zs :=
  World.ownsRow.kept h (row := none) ⟨hb.os, hb.tape, hb.output, hb.size, fun i hi _ => hb.block i hi⟩ (by cases v.ownBlock <;> simp)
theorem ownU_nil (w : World) (base : Nat) : OwnU w base (.slice none 0 0) [] := World.ownsRow_nil _ _ _ _
theorem OwnU.len (h : OwnU w base v zs) : ∃ A c, v = .slice A zs.length c := by
  rcases h.2 with ⟨rfl, h0⟩ | ⟨g, cap, cur, rfl, _⟩
  · exact ⟨none, 0, by rw [h0]⟩
  · exact ⟨_, _, rfl⟩
/-- A uint of the row. -/
theorem OwnU.at_ (h : OwnU w base v zs) {k : Nat} (hk : k < zs.length) : ∃ g c, v = .slice (some ⟨g, 0, none⟩) zs.length c ∧ w.cell? ⟨g, k, none⟩ = some (.int .u64 ((zs.getD k 0 : Nat) : Int)) ∧ g < w.heap.size := by
  rcases h.2 with ⟨_, h9⟩ | ⟨g, cap, cur, rfl, hg, hgc, hle, hcm, hcs, hct⟩
  · omega
  · have hgc' : Blk w g 22 cur := hgc
    refine ⟨g, cap, rfl, ?_, hgc'.lt⟩
    have h1 : (cur.toList.take (zs.length * 1))[k]? = some (.int .u64 ((zs.getD k 0 : Nat) : Int)) := by
      rw [hct]
      unfold uintsV
      rw [List.getElem?_map, List.getElem?_eq_getElem hk, List.getD_eq_getElem?_getD, List.getElem?_eq_getElem hk]
      rfl
    rw [List.getElem?_take_of_lt (by omega)] at h1
    rw [hgc'.cell]
    simpa using h1
end
theorem uintInfo : (Tryd.prog.info? 22).map (fun i => (i.zero, i.size, i.bytes)) = some (some (.int .u64 0), 1, 8) := by kernel_rfl
theorem one_newsU (w : World) (x : Nat) (g : Nat) (hc : w.cell? ⟨g, 0, none⟩ = some (.int .u64 (x : Int))) : Reads w (g + 1) 1 (some ⟨g, 0, none⟩) 1 (uintsV [x]) := by
  refine ⟨rfl, fun _ => ⟨_, rfl, Nat.lt_succ_self _, fun j u hu => ?_⟩⟩
  match j, hu with
  | 0, hu => simp [uintsV] at hu; subst hu; simpa [Addr.add] using hc
/-- append of one uint, in a plain region. -/
theorem appU (w : World) {ops : Array Oper} {rest : List Oper} {o : Oper} {a : Act} {Q : Exit → Act → World → Prop} (hgd : o.guard = none) (s x : Operand) (t : TypeId)
    (ho : o.op = .call { callee := .builtin .append, args := #[s, x], argTypes := #[t, t] }) (base : Nat) (ht : Tryd.prog.underlying t = some (.slice 22))
    (v : Value) (zs : List Nat) (hs : a.eval s = v) (hown : OwnU w base v zs) (g c y : Nat) (hx : a.eval x = .slice (some ⟨g, 0, none⟩) 1 c) (hc : w.cell? ⟨g, 0, none⟩ = some (.int .u64 (y : Int)))
    (hl : zs.length ≤ 100000000) (hbase : base ≤ w.heap.size)
    (h : ∀ v' w', OwnU w' base v' (zs ++ [y]) → w.grownBy w' v.ownBlock → wpList Tryd.prog ops Q rest (a.put o.dst v') w') : wpList Tryd.prog ops Q (o :: rest) a w := by
  obtain ⟨i0, hi, hz0, hz1, hz2⟩ := info_parts uintInfo
  refine wpList_append_any w hgd s x t ho base 22 i0 (.int .u64 0) 1 8 ht hi hz0 hz1 hz2 rfl (by decide) v zs.length _ hs hown (g + 1) _ 1 c (uintsV [y]) hx (one_newsU w y g hc) (fun u hu => by obtain ⟨y, _, rfl⟩ := List.mem_map.1 hu; rfl) (by simp only [maxLen]; omega) (by omega) hbase ?_
  intro v' w' ho' hg' hor
  refine h v' w' ?_ hg'
  unfold OwnU
  rw [List.length_append, show uintsV (zs ++ [y]) = uintsV zs ++ uintsV [y] by unfold uintsV; rw [List.map_append]]
  exact ho'
end Go.Proofs.YtdlcldhnbhlikaaDoor
namespace Go.Proofs.YtdlcldhnbhlikaaDoor
open Go.RowKit

theorem getD_ext {l1 l2 : List Nat} (hl : l1.length = l2.length) (h : ∀ k, k < l1.length → l1.getD k 0 = l2.getD k 0) : l1 = l2 := by
  refine List.ext_getElem hl fun k h1 h2 => ?_
  have := h k h1
  rwa [List.getD_eq_getElem?_getD, List.getD_eq_getElem?_getD, List.getElem?_eq_getElem h1, List.getElem?_eq_getElem h2] at this
def SameL (w : World) (l1 l2 : List Nat) (e : Ending) (w' : World) : Prop := e = .returned (.bool (decide (l1 = l2))) ∧ ∃ q, w' = w.drewN q
set_option maxHeartbeats 4000000 in
theorem sameSets_any (base1 base2 : Nat) (v1 v2 : Value) (l1 l2 : List Nat) (w : World) (h1 : OwnU w base1 v1 l1) (h2 : OwnU w base2 v2 l2) (hn : l1.length ≤ 1000000) :
    Calls Tryd.prog 23 #[v1, v2] w (SameL w l1 l2) := by
  obtain ⟨A1, c1, rfl⟩ := h1.len
  obtain ⟨A2, c2, rfl⟩ := h2.len
  by_cases hl : l1.length = l2.length
  case neg =>
    have hlb : ¬ ((l1.length : Int) = (l2.length : Int)) := by omega
    have hne : decide (l1 = l2) = false := decide_eq_false fun e => hl (by rw [e])
    clear h1 h2
    go_enter Tryd.func23, Tryd.ntmps23
    go_wp2
    go_ret
    exact ⟨by rw [hne]; rfl, 0, rfl⟩
  have H1 := hide h1
  have H2 := hide h2
  have HL := Lib.hid hl
  obtain ⟨n, hn1⟩ : ∃ n, n = l1.length := ⟨_, rfl⟩
  have hn2 : l2.length = n := by omega
  rw [hn2, ← hn1]
  have HN := Lib.hid (And.intro hn1 hn2)
  have hn3 : n ≤ 1000000 := by omega
  clear h1 h2 hl hn1 hn2 hn
  go_enter Tryd.func23, Tryd.ntmps23
  go_wp2
  go_loopw [5] (fun iv wr => ∃ i q : Nat, i ≤ n ∧ iv = .int .i64 i ∧ wr = w.drewN q ∧ Hid (∀ k, k < i → l1.getD k 0 = l2.getD k 0)) (fun iv _ => n - (intOf iv).toNat)
  case atStart => exact ⟨0, 0, Nat.zero_le _, rfl, rfl, hide (fun k hk => absurd hk (Nat.not_lt_zero k))⟩
  case round =>
    obtain ⟨i, q, hi, rfl, rfl, HP⟩ := hrel
    by_cases hlt : i < n
    · obtain ⟨g1, c1', e1, hc1, _⟩ := H1.out.at_ (k := i) (by have := HN.out; omega)
      obtain ⟨g2, c2', e2, hc2, _⟩ := H2.out.at_ (k := i) (by have := HN.out; omega)
      cases e1
      cases e2
      have hiI : (i : Int) < (n : Int) := by omega
      have HQ : Hid (l1.getD i 0 = l2.getD i 0 → ∀ k, k < i + 1 → l1.getD k 0 = l2.getD k 0) := hide fun e k hk => by
        by_cases hki : k = i
        · rw [hki]; exact e
        · exact HP.out k (by omega)
      have HR : Hid (l1 = l2 → l1.getD i 0 = l2.getD i 0) := hide fun e => by rw [e]
      generalize l1.getD i 0 = x at hc1 HQ HR
      generalize l2.getD i 0 = y at hc2 HQ HR
      by_cases hxy : x = y
      · have HG := hide (HQ.out hxy)
        have hxb : (x : Int) = (y : Int) := by rw [hxy]
        clear HQ HR hxy
        go_wp2
        go_quiet (fail)
        go_wp2
        go_roundw
        case rel => exact ⟨i + 1, _, by omega, by go_num, by first | rfl | exact World.drewN_drewN .., HG⟩
        case measure => simp [intOf]; omega
      · have hne : decide (l1 = l2) = false := decide_eq_false fun e => hxy (HR.out e)
        have HNE := Lib.hid hne
        have hxb : ¬ ((x : Int) = (y : Int)) := by omega
        clear hne HQ HR hxy
        go_wp2
        go_quiet (fail)
        go_wp2
        go_ret
        exact ⟨by rw [HNE.out]; rfl, _, by first | rfl | exact World.drewN_drewN ..⟩
    · obtain rfl : i = n := by omega
      have heq : decide (l1 = l2) = true := decide_eq_true (getD_ext HL.out fun k hk => HP.out k (by have := HN.out; omega))
      have HEQ := Lib.hid heq
      clear heq
      go_wp2
      go_ret
      exact ⟨by rw [HEQ.out]; rfl, q, rfl⟩
end Go.Proofs.YtdlcldhnbhlikaaDoor
