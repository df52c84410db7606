/-
  Rows of uints of the call's own.
-/
import Derived.Test.YtfbhmkpihmcegaaArenaReach
namespace Go.Proofs.Ytfbhmkpihmcegaa
open Go.RowKit

def uintsV (zs : List Nat) : List Value := zs.map fun x : Nat => Value.int .u64 (x : Int)
def OwnU (w : World) (base : Nat) (v : Value) (zs : List Nat) : Prop := w.ownsRow base 32 1 v zs.length (uintsV zs)
section
variable {w w' : World} {base : Nat} {v : Value} {zs : List Nat}
theorem OwnU.below (h : OwnU w base v zs) (hb : Below w.heap.size w w') : OwnU w' base v zs :=
  World.ownsRow.kept h (row := none) ⟨hb.os, hb.tape, hb.output, hb.size, fun i hi _ => hb.block i hi⟩ (by cases v.ownBlock <;> simp)
theorem ownU_nil (w : World) (base : Nat) : OwnU w base (.slice none 0 0) [] := World.ownsRow_nil _ _ _ _
theorem OwnU.len (h : OwnU w base v zs) : ∃ A c, v = .slice A zs.length c := by
  rcases h.2 with ⟨rfl, h0⟩ | ⟨g, cap, cur, rfl, _⟩
  · exact ⟨none, 0, by rw [h0]⟩
  · exact ⟨_, _, rfl⟩
/-- A uint of the row. -/
theorem OwnU.at_ (h : OwnU w base v zs) {k : Nat} (hk : k < zs.length) : ∃ g c, v = .slice (some ⟨g, 0, none⟩) zs.length c ∧ w.cell? ⟨g, k, none⟩ = some (.int .u64 ((zs.getD k 0 : Nat) : Int)) ∧ g < w.heap.size := by
  rcases h.2 with ⟨_, h9⟩ | ⟨g, cap, cur, rfl, hg, hgc, hle, hcm, hcs, hct⟩
  · omega
  · have hgc' : Blk w g 32 cur := hgc
    refine ⟨g, cap, rfl, ?_, hgc'.lt⟩
    have h1 : (cur.toList.take (zs.length * 1))[k]? = some (.int .u64 ((zs.getD k 0 : Nat) : Int)) := by
      rw [hct]
      unfold uintsV
      rw [List.getElem?_map, List.getElem?_eq_getElem hk, List.getD_eq_getElem?_getD, List.getElem?_eq_getElem hk]
      rfl
    rw [List.getElem?_take_of_lt (by omega)] at h1
    rw [hgc'.cell]
    simpa using h1
end
theorem uintInfo : (Try.prog.info? 32).map (fun i => (i.zero, i.size, i.bytes)) = some (some (.int .u64 0), 1, 8) := by kernel_rfl
theorem one_newsU (w : World) (x : Nat) (g : Nat) (hc : w.cell? ⟨g, 0, none⟩ = some (.int .u64 (x : Int))) : Reads w (g + 1) 1 (some ⟨g, 0, none⟩) 1 (uintsV [x]) := by
  refine ⟨rfl, fun _ => ⟨_, rfl, Nat.lt_succ_self _, fun j u hu => ?_⟩⟩
  match j, hu with
  | 0, hu => simp [uintsV] at hu; subst hu; simpa [Addr.add] using hc
/-- append of one uint, in a plain region. -/
theorem appU (w : World) {ops : Array Oper} {rest : List Oper} {o : Oper} {a : Act} {Q : Exit → Act → World → Prop} (hgd : o.guard = none) (s x : Operand) (t : TypeId)
    (ho : o.op = .call { callee := .builtin .append, args := #[s, x], argTypes := #[t, t] }) (base : Nat) (ht : Try.prog.underlying t = some (.slice 32))
    (v : Value) (zs : List Nat) (hs : a.eval s = v) (hown : OwnU w base v zs) (g c y : Nat) (hx : a.eval x = .slice (some ⟨g, 0, none⟩) 1 c) (hc : w.cell? ⟨g, 0, none⟩ = some (.int .u64 (y : Int)))
    (hl : zs.length ≤ 100000000) (hbase : base ≤ w.heap.size)
    (h : ∀ v' w', OwnU w' base v' (zs ++ [y]) → w.grownBy w' v.ownBlock → wpList Try.prog ops Q rest (a.put o.dst v') w') : wpList Try.prog ops Q (o :: rest) a w := by
  obtain ⟨i0, hi, hz0, hz1, hz2⟩ := info_parts uintInfo
  refine wpList_append_any w hgd s x t ho base 32 i0 (.int .u64 0) 1 8 ht hi hz0 hz1 hz2 rfl (by decide) v zs.length _ hs hown (g + 1) _ 1 c (uintsV [y]) hx (one_newsU w y g hc) (fun u hu => by obtain ⟨y, _, rfl⟩ := List.mem_map.1 hu; rfl) (by simp only [maxLen]; omega) (by omega) hbase ?_
  intro v' w' ho' hg' hor
  refine h v' w' ?_ hg'
  unfold OwnU
  rw [List.length_append, show uintsV (zs ++ [y]) = uintsV zs ++ uintsV [y] by unfold uintsV; rw [List.map_append]]
  exact ho'
end Go.Proofs.Ytfbhmkpihmcegaa
