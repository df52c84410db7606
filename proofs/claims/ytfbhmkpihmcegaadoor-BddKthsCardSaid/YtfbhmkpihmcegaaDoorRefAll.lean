/-
  Rows of uints of the call's own; the document's All.
-/
import Derived.Test.YtfbhmkpihmcegaaDoorAllPure
import Derived.Laws.Bits64b
namespace Go.Proofs.YtfbhmkpihmcegaaDoor
open Go.RowKit

def uintsV (zs : List Nat) : List Value := zs.map fun x : Nat => Value.int .u64 (x : Int)
def OwnU (w : World) (base : Nat) (v : Value) (zs : List Nat) : Prop := w.ownsRow base 63 1 v zs.length (uintsV zs)
section
variable {w w' : World} {base : Nat} {v : Value} {zs : List Nat}
theorem OwnU.below (h : OwnU w base v zs) (hb : Below w.heap.size w w') : OwnU w' base v zs :=
  World.ownsRow.kept h (row := none) ⟨hb.os, hb.tape, hb.output, hb.size, fun i hi _ => hb.block i hi⟩ (by cases v.ownBlock <;> simp)
theorem ownU_nil (w : World) (base : Nat) : OwnU w base (.slice none 0 0) [] := World.ownsRow_nil _ _ _ _
theorem OwnU.len (h : OwnU w base v zs) : ∃ A c, v = .slice A zs.length c := by
  rcases h.2 with ⟨rfl, h0⟩ | ⟨g, cap, cur, rfl, _⟩
  · exact ⟨none, 0, by rw [h0]⟩
  · exact ⟨_, _, rfl⟩
/-- A uint of the row. -/
theorem OwnU.at_ (h : OwnU w base v zs) {k : Nat} (hk : k < zs.length) : ∃ g c, v = .slice (some ⟨g, 0, none⟩) zs.length c ∧ w.cell? ⟨g, k, none⟩ = some (.int .u64 ((zs.getD k 0 : Nat) : Int)) ∧ g < w.heap.size := by
  rcases h.2 with ⟨_, h9⟩ | ⟨g, cap, cur, rfl, hg, hgc, hle, hcm, hcs, hct⟩
  · omega
  · have hgc' : Blk w g 63 cur := hgc
    refine ⟨g, cap, rfl, ?_, hgc'.lt⟩
    have h1 : (cur.toList.take (zs.length * 1))[k]? = some (.int .u64 ((zs.getD k 0 : Nat) : Int)) := by
      rw [hct]
      unfold uintsV
      rw [List.getElem?_map, List.getElem?_eq_getElem hk, List.getD_eq_getElem?_getD, List.getElem?_eq_getElem hk]
      rfl
    rw [List.getElem?_take_of_lt (by omega)] at h1
    rw [hgc'.cell]
    simpa using h1
end
theorem uintInfo : (Tryd.prog.info? 63).map (fun i => (i.zero, i.size, i.bytes)) = some (some (.int .u64 0), 1, 8) := by kernel_rfl
theorem one_newsU (w : World) (x : Nat) (g : Nat) (hc : w.cell? ⟨g, 0, none⟩ = some (.int .u64 (x : Int))) : Reads w (g + 1) 1 (some ⟨g, 0, none⟩) 1 (uintsV [x]) := by
  refine ⟨rfl, fun _ => ⟨_, rfl, Nat.lt_succ_self _, fun j u hu => ?_⟩⟩
  match j, hu with
  | 0, hu => simp [uintsV] at hu; subst hu; simpa [Addr.add] using hc
/-- append of one uint, in a plain region. -/
theorem appU (w : World) {ops : Array Oper} {rest : List Oper} {o : Oper} {a : Act} {Q : Exit → Act → World → Prop} (hgd : o.guard = none) (s x : Operand) (t : TypeId)
    (ho : o.op = .call { callee := .builtin .append, args := #[s, x], argTypes := #[t, t] }) (base : Nat) (ht : Tryd.prog.underlying t = some (.slice 63))
    (v : Value) (zs : List Nat) (hs : a.eval s = v) (hown : OwnU w base v zs) (g c y : Nat) (hx : a.eval x = .slice (some ⟨g, 0, none⟩) 1 c) (hc : w.cell? ⟨g, 0, none⟩ = some (.int .u64 (y : Int)))
    (hl : zs.length ≤ 100000000) (hbase : base ≤ w.heap.size)
    (h : ∀ v' w', OwnU w' base v' (zs ++ [y]) → w.grownBy w' v.ownBlock → wpList Tryd.prog ops Q rest (a.put o.dst v') w') : wpList Tryd.prog ops Q (o :: rest) a w := by
  obtain ⟨i0, hi, hz0, hz1, hz2⟩ := info_parts uintInfo
  refine wpList_append_any w hgd s x t ho base 63 i0 (.int .u64 0) 1 8 ht hi hz0 hz1 hz2 rfl (by decide) v zs.length _ hs hown (g + 1) _ 1 c (uintsV [y]) hx (one_newsU w y g hc) (fun u hu => by obtain ⟨y, _, rfl⟩ := List.mem_map.1 hu; rfl) (by simp only [maxLen]; omega) (by omega) hbase ?_
  intro v' w' ho' hg' hor
  refine h v' w' ?_ hg'
  unfold OwnU
  rw [List.length_append, show uintsV (zs ++ [y]) = uintsV zs ++ uintsV [y] by unfold uintsV; rw [List.map_append]]
  exact ho'
theorem tab_cell2 {w : World} {p sz k : Nat} {F : FnB} (h : Blk w p 4 (boolArr (tabF sz F))) (hk : k < sz) : w.cell? ⟨p, k, none⟩ = some (.bool (F (valN k))) := by
  rw [h.cell k, boolArr_at (by rw [tab_len]; exact hk), tab_at F hk]
structure AllI (w : World) (F : FnB) (vn k : Nat) (vo : Value) (wr : World) : Prop where
  bel : Below w.heap.size w wr
  own : OwnU wr w.heap.size vo (allL F vn k)
def AllP (w : World) (F : FnB) (vn sz : Nat) (e : Ending) (w' : World) : Prop := ∃ v, e = .returned v ∧ AllI w F vn sz v w'
theorem bitB : ∀ s, s < 6 → ∀ k, k < 64 → (bits BinOp.and IntKind.i64 (((k : Nat) : Int) / 2 ^ s) 1 == 1) = Nat.testBit k s := litB
theorem orB (a v : Nat) (ha : a < 64) (hv : v < 6) : bits BinOp.or IntKind.u64 ((a : Nat) : Int) ((2 ^ v : Nat) : Int) = ((a ||| 2 ^ v : Nat) : Int) := by
  have h1 : 2 ^ v ≤ 2 ^ 5 := Nat.pow_le_pow_right (by omega) (by omega)
  exact bits_or_u64_nat a (2 ^ v) (by omega) (by omega)
theorem pow_u (v : Nat) (hv : v < 6) : IntKind.u64.wrap (2 ^ v) = ((2 ^ v : Nat) : Int) := by
  rcases (show v = 0 ∨ v = 1 ∨ v = 2 ∨ v = 3 ∨ v = 4 ∨ v = 5 by omega) with rfl | rfl | rfl | rfl | rfl | rfl <;> decide +kernel
set_option maxRecDepth 100000 in
set_option maxHeartbeats 8000000 in
theorem refAll_any (sz vn p : Nat) (F : FnB) (w : World) (h : Blk w p 4 (boolArr (tabF sz F))) (hs : 2 ^ vn = sz) (h1 : 1 ≤ vn) (h6 : vn ≤ 6) :
    Calls Tryd.prog 38 #[tabV sz p, .int .i64 (vn : Int)] w (AllP w F vn sz) := by
  have hs64 : sz ≤ 64 := by rw [← hs]; exact Nat.le_trans (Nat.pow_le_pow_right (by omega) h6) (by decide)
  have HK := hide h
  have HSZ := Lib.hid hs
  have HO := hide (show AllI w F vn 0 (.slice none 0 0) w from ⟨Below.refl _ _, ownU_nil _ _⟩)
  clear h hs
  unfold tabV
  go_enter Tryd.func38, Tryd.ntmps38
  go_wp2
  go_loopw [5, 11] (fun vo iv wr => ∃ k : Nat, k ≤ sz ∧ iv = .int .i64 k ∧ Hid (AllI w F vn k vo wr)) (fun _ iv _ => sz - (intOf iv).toNat)
  case atStart => exact ⟨0, Nat.zero_le _, rfl, HO⟩
  case round =>
    clear HO
    obtain ⟨k, hk, rfl, hI⟩ := hrel
    by_cases hlt : k < sz
    · have hkI : (k : Int) < (sz : Int) := by omega
      have hk64 : k < 64 := by omega
      go_wp2
      go_loopw [7, 15] (fun xv iv wr2 => ∃ v : Nat, v ≤ vn ∧ iv = .int .i64 v ∧ xv = .int .u64 ((revP vn k v : Nat) : Int) ∧ wr2 = wr) (fun _ iv _ => vn - (intOf iv).toNat)
      case atStart => exact ⟨0, Nat.zero_le _, rfl, rfl, rfl⟩
      case round =>
        obtain ⟨v, hv, rfl, rfl, hw⟩ := hrel
        subst hw
        by_cases hvl : v < vn
        · have hvI : (v : Int) < (vn : Int) := by omega
          have hbit := bitB (vn - 1 - v) (by omega) k hk64
          have hmin : min (vn - 1 - v) 64 = vn - 1 - v := by omega
          have hmin2 : min v 64 = v := by omega
          have hrl := rev_lt vn k v
          have hp5 : 2 ^ v ≤ 2 ^ 5 := Nat.pow_le_pow_right (by omega) (by omega)
          have hor := orB (revP vn k v) v (by omega) (by omega)
          have he : ((2 ^ v : Nat) : Int) = (2 : Int) ^ v := by norm_cast
          rw [he] at hor
          have hpu := pow_u v (by omega)
          rw [he] at hpu
          clear he
          have HR := Lib.hid (show revP vn k (v + 1) = if k.testBit (vn - 1 - v) then revP vn k v ||| 2 ^ v else revP vn k v from rfl)
          cases hb : k.testBit (vn - 1 - v)
          all_goals
            rw [hb] at hbit HR
            go_wp2
            go_roundw
            case rel => exact ⟨v + 1, by omega, by go_num, by rw [HR.out]; rfl, by first | rfl | trivial⟩
            case measure => simp [intOf]; omega
        · obtain rfl : v = vn := by omega
          have hx := rev_lt v k v
          rw [HSZ.out] at hx
          have hxI : ((revP v k v : Nat) : Int) < (sz : Int) := by omega
          have ct := tab_cell2 (HK.out.below hI.out.bel HK.out.lt) hx
          have HAS := Lib.hid (allL_succ F v k)
          have hle := allL_le F v k
          generalize revP v k v = x at ct hx hxI HAS ⊢
          cases hF : F (valN x)
          · rw [hF] at ct HAS
            have HN := hide (show AllI w F v (k + 1) _ wr from ⟨hI.out.bel, by rw [HAS.out]; simpa using hI.out.own⟩)
            clear hF HAS hI
            go_wp2
            go_roundw
            case rel => exact ⟨k + 1, by omega, by go_num, HN⟩
            case measure => simp [intOf]; omega
          · rw [hF] at ct HAS
            have hal := (Below.refl wr.heap.size wr).alloc (Nat.le_refl _) (.cells #[.int .u64 (x : Int)] 63)
            have HOA := hide (hI.out.own.below hal)
            have HCA := hide ((Blk.new wr 63 #[.int .u64 (x : Int)]).cell 0)
            have HBA := hide (hI.out.bel.trans (hal.mono hI.out.bel.size))
            clear hal hF hI
            go_wp2_with (first
              | (at_builtin; refine appU _ rfl _ _ _ rfl w.heap.size Tryd.underlying80 _ (allL F v k) rfl HOA.out wr.heap.size 1 x rfl HCA.out (by omega) HBA.out.size ?_; intro v9 w9 ho9 hg9; have HN9 := hide (show AllI w F v (k + 1) v9 w9 from ⟨HBA.out.grown hg9 HBA.out.size (fun j hj => (World.ownsRow.lt HOA.out j hj).1), by rw [HAS.out]; exact ho9⟩); clear ho9 hg9)
              | fail)
            go_roundw
            case rel => exact ⟨k + 1, by omega, by go_num, HN9⟩
            case measure => simp [intOf]; omega
    · obtain rfl : k = sz := by omega
      go_wp2
      go_ret
      exact ⟨_, rfl, hI.out⟩
end Go.Proofs.YtfbhmkpihmcegaaDoor
