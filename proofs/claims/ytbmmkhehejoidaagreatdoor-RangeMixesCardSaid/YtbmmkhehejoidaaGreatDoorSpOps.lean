/-
  semver's ranges: Any, Empty, Or, Not, And.
-/
import Derived.Test.YtbmmkhehejoidaaGreatDoorMade
import Derived.Test.YtbmmkhehejoidaaGreatDoorRgText
import Derived.Deep.RegionHeld3
namespace Go.Proofs.YtbmmkhehejoidaaGreatDoor
open Go.RowKit

/-- A call hands back a range. -/
def RgP (w : World) (l : List (Nat × Nat)) (e : Ending) (w' : World) : Prop := ∃ v, e = .returned (.agg #[v]) ∧ OwnP w' w.heap.size v l ∧ Below w.heap.size w w'
theorem any_any (w : World) : Calls Tryz.prog 20 #[] w (RgP w anyC) := by
  have HO := hide (ownP_one (w.alloc (.cells #[.slice (some ⟨w.heap.size + 1, 0, none⟩) 1 1] 31)) w.heap.size (0, endR) (by simp))
  have HB := hide ((Blk.new w 31 #[.slice (some ⟨w.heap.size + 1, 0, none⟩) 1 1]).alloc (.cells #[.int .i64 0, .int .i64 1000000000] 67))
  have n0 := HB.out.cell 0
  go_enter Tryz.func20, Tryz.ntmps20
  go_wp2_with fail
  exact bodyPost_ret (v := .agg #[.slice (some ⟨w.heap.size + 1, 0, none⟩) 1 1]) (by simp [results, Tryz.results20, go_sem, n0]) rfl ⟨_, rfl, by have h9 := HO.out; simp at h9; exact h9, ((Below.refl w.heap.size w).alloc (Nat.le_refl _) _).alloc (by simp) _⟩
def EmptyP (w : World) (l : List (Nat × Nat)) (e : Ending) (w' : World) : Prop := e = .returned (.bool (decide (l = []))) ∧ Below w.heap.size w w'
theorem empty_any (v : Value) (l : List (Nat × Nat)) (w : World) (h : OwnP w 0 v l) : Calls Tryz.prog 8 #[.agg #[v]] w (EmptyP w l) := by
  obtain ⟨A, c, rfl⟩ := h.len
  have hb : decide (l = []) = ((l.length : Int) == 0) := by
    cases l with
    | nil => rfl
    | cons a r => simp; omega
  unfold EmptyP
  rw [hb]
  go_enter Tryz.func8, Tryz.ntmps8
  go_wp2_with fail
  go_ret
  exact ⟨rfl, (Below.refl w.heap.size w).alloc (Nat.le_refl _) _⟩
def GrowP (w : World) (e : Ending) (w' : World) : Prop := ∃ v, e = .returned v ∧ OwnP w' w.heap.size v [] ∧ Below w.heap.size w w'
theorem grow_any (n : Nat) (w : World) (hn : n ≤ 8000000000) : Calls Tryz.prog 64 #[.slice none 0 0, .int .i64 (n : Int)] w (GrowP w) := by
  obtain ⟨i0, hi, hz0, hz1, hz2⟩ := info_parts spanInfo
  rcases Nat.eq_zero_or_pos n with rfl | h0
  · refine (Any8.slices_Grow_room Tryz.growSp none 0 0 0 w (Nat.le_refl _) (by omega) (by omega) (by omega)).mono ?_
    rintro e w' ⟨rfl, rfl⟩
    exact ⟨_, rfl, ownP_nil _ _, Below.refl _ _⟩
  · refine (Any8.slices_Grow_grow Tryz.growSp i0 (.agg #[.int .i64 0, .int .i64 0]) hi hz0 (by omega) none 0 0 n [] w (Nat.le_refl _) (by omega) (by rw [hz2]; omega) (by omega) (by simp) (fun _ => rfl) (fun a h => by cases h)).mono ?_
    rintro e w' ⟨rfl, rfl⟩
    have hge := grownCap_ge w (0 + n) 0 (Tryz.growSp_ren.t 25)
    have hle := grownCap_le_maxLen w (0 + n) 0 (Tryz.growSp_ren.t 25) (by simp [maxLen]; omega)
    refine ⟨_, rfl, ⟨rfl, .inr ⟨w.heap.size, _, _, rfl, Nat.le_refl _, Blk.new w.drew _ _, Nat.zero_le _, hle, ?_, by simp [spsV]⟩⟩, (Below.refl w.heap.size w).drew.alloc (Nat.le_refl _) _⟩
    have hcl : (Value.agg #[.int .i64 0, .int .i64 0]).cells = #[.int .i64 0, .int .i64 0] := by simp [Value.cells]
    rw [hcl]
    rw [Nat.zero_add] at hge ⊢
    simp [Builtin.zeroCells]
    omega
/-- append of a row of spans. -/
theorem appPs (w : World) {ops : Array Oper} {rest : List Oper} {o : Oper} {a : Act} {Q : Exit → Act → World → Prop} (hgd : o.guard = none) (s x : Operand) (t : TypeId)
    (ho : o.op = .call { callee := .builtin .append, args := #[s, x], argTypes := #[t, t] }) (base : Nat) (ht : Tryz.prog.underlying t = some (.slice 67))
    (v : Value) (qs : List (Nat × Nat)) (hs : a.eval s = v) (hown : OwnP w base v qs) (A : Option Addr) (n c : Nat) (ps : List (Nat × Nat)) (hx : a.eval x = .slice A n c) (hk : OwnP w 0 (.slice A n c) ps)
    (hl : qs.length + ps.length ≤ 8000000000) (hbase : base ≤ w.heap.size)
    (h : ∀ v' w', OwnP w' base v' (qs ++ ps) → w.grownBy w' v.ownBlock → wpList Tryz.prog ops Q rest (a.put o.dst v') w') : wpList Tryz.prog ops Q (o :: rest) a w := by
  obtain ⟨i0, hi, hz0, hz1, hz2⟩ := info_parts spanInfo
  obtain ⟨A', c', e⟩ := hk.len
  injection e with e1 e2 e3
  subst e1 e2 e3
  refine wpList_append_any w hgd s x t ho base 67 i0 (.agg #[.int .i64 0, .int .i64 0]) 2 16 ht hi hz0 hz1 hz2 rfl (by decide) v qs.length _ hs hown w.heap.size _ _ _ (spsV ps) hx (Reads.of_own hk) (fun u hu => by
    unfold spsV at hu
    obtain ⟨q, _, hq⟩ := List.mem_flatMap.1 hu
    simp only [spV, List.mem_cons, List.not_mem_nil, or_false] at hq
    rcases hq with rfl | rfl <;> rfl) (by simp only [maxLen]; omega) (by omega) hbase ?_
  intro v' w' ho' hg' hor
  refine h v' w' ?_ hg'
  unfold OwnP
  rw [List.length_append, spsV_app]
  exact ho'
def ConP (w : World) (l : List (Nat × Nat)) (e : Ending) (w' : World) : Prop := ∃ v, e = .returned v ∧ OwnP w' w.heap.size v l ∧ Below w.heap.size w w'
def sum2 (a b : Nat) : Nat → Nat
  | 0 => 0
  | 1 => a
  | _ => a + b
def pre2 (a b : List (Nat × Nat)) : Nat → List (Nat × Nat)
  | 0 => []
  | 1 => a
  | _ => a ++ b
theorem pre2_len (a b : List (Nat × Nat)) (i : Nat) : (pre2 a b i).length ≤ a.length + b.length := by
  match i with
  | 0 => simp [pre2]
  | 1 => simp [pre2]
  | n + 2 => simp [pre2]
set_option maxRecDepth 100000 in
set_option maxHeartbeats 2000000 in
theorem concat_any (b : Nat) (v1 v2 : Value) (l1 l2 : List (Nat × Nat)) (w : World) (hk : Blk w b 29 #[v1, v2]) (h1 : OwnP w 0 v1 l1) (h2 : OwnP w 0 v2 l2) (n1 : l1.length ≤ 1000000000) (n2 : l2.length ≤ 1000000000) :
    Calls Tryz.prog 38 #[.slice (some ⟨b, 0, none⟩) 2 2] w (ConP w (l1 ++ l2)) := by
  have HK := hide hk
  have H1 := hide h1
  have H2 := hide h2
  obtain ⟨A1, c1, rfl⟩ := h1.len
  obtain ⟨A2, c2, rfl⟩ := h2.len
  clear h1 h2 hk
  go_enter Tryz.func38, Tryz.ntmps38
  go_wp2_with fail
  go_loopw [3, 5, 11] (fun v3 _ iv wr => ∃ i : Nat, i ≤ 2 ∧ iv = .int .i64 i ∧ v3 = .int .i64 (sum2 l1.length l2.length i : Nat) ∧ wr = w) (fun _ _ iv _ => 2 - (intOf iv).toNat)
  case atStart => exact ⟨0, by omega, rfl, rfl, rfl⟩
  case round =>
    obtain ⟨i, hi, rfl, rfl, hw⟩ := hrel
    have hw2 := hw.symm
    subst hw2
    have z0 := HK.out.cell 0
    have z1 := HK.out.cell 1
    rcases (show i = 0 ∨ i = 1 ∨ i = 2 by omega) with rfl | rfl | rfl
    · simp only [sum2]
      go_wp2_with fail
      go_round
      case rel => exact ⟨1, by omega, by go_num, by simp, trivial⟩
      case measure => simp [intOf]
    · simp only [sum2]
      go_wp2_with fail
      go_round
      case rel => exact ⟨2, by omega, by go_num, by simp, trivial⟩
      case measure => simp [intOf]
    · simp only [sum2]
      have HG := hide (grow_any (l1.length + l2.length) w (by omega))
      rw [Int.natCast_add] at HG
      clear z0 z1
      go_wp2_with fail
      refine HG.out.mono ?_
      rintro e w1 ⟨vg, rfl, hog, hbg⟩
      have HST := hide hog
      have HB := hide hbg
      have HKB := hide (HK.out.below hbg HK.out.lt)
      clear hog hbg HG
      go_wp2_with fail
      go_loopw [6, 8, 27] (fun v6 _ iv w2 => ∃ i : Nat, i ≤ 2 ∧ iv = .int .i64 i ∧ Hid (OwnP w2 w.heap.size v6 (pre2 l1 l2 i)) ∧ Hid (Below w.heap.size w w2)) (fun _ _ iv _ => 2 - (intOf iv).toNat)
      case atStart => exact ⟨0, by omega, rfl, HST, HB⟩
      case round =>
        clear HST HB HKB
        obtain ⟨i, hi2, rfl, HO, HB⟩ := hrel
        have HKB := hide (HK.out.below HB.out HK.out.lt)
        have z0 := HKB.out.cell 0
        have z1 := HKB.out.cell 1
        have H1' := hide (H1.out.below HB.out)
        have H2' := hide (H2.out.below HB.out)
        have hsz := HB.out.size
        have HLT := Lib.hid (fun k hk => (HO.out.base_le k hk).1)
        rcases (show i = 0 ∨ i = 1 ∨ i = 2 by omega) with rfl | rfl | rfl
        · simp only [pre2] at HO
          go_wp2_with (at_builtin; refine appPs _ rfl _ _ _ rfl w.heap.size Tryz.underlying29 _ [] rfl HO.out _ _ _ l1 rfl H1'.out (by simp; omega) hsz ?_; intro v9 w9 ho9 hg9; have HO9 := hide (show OwnP w9 w.heap.size v9 (pre2 l1 l2 1) from ho9); have HB9 := hide (HB.out.grown hg9 hsz HLT.out); clear ho9 hg9)
          go_round
          case rel => exact ⟨1, by omega, by go_num, HO9, HB9⟩
          case measure => simp [intOf]
        · simp only [pre2] at HO
          go_wp2_with (at_builtin; refine appPs _ rfl _ _ _ rfl w.heap.size Tryz.underlying29 _ l1 rfl HO.out _ _ _ l2 rfl H2'.out (by omega) hsz ?_; intro v9 w9 ho9 hg9; have HO9 := hide (show OwnP w9 w.heap.size v9 (pre2 l1 l2 2) from ho9); have HB9 := hide (HB.out.grown hg9 hsz HLT.out); clear ho9 hg9)
          go_round
          case rel => exact ⟨2, by omega, by go_num, HO9, HB9⟩
          case measure => simp [intOf]
        · go_wp2_with fail
          go_ret
          exact ⟨_, rfl, HO.out, HB.out⟩
end Go.Proofs.YtbmmkhehejoidaaGreatDoor
