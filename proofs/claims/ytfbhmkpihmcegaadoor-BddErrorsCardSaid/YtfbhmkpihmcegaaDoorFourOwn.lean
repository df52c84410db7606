/-
  Rows of plain steps (four ints each) of the call's own; bdd.New.
-/
import Derived.Test.YtfbhmkpihmcegaaDoorBddFuns
import Derived.Test.YtfbhmkpihmcegaaDoorBddTabM
namespace Go.Proofs.YtfbhmkpihmcegaaDoor
open Go.RowKit Go.Maps

def fourV (q : Four) : List Value := [.int .i64 q.what, .int .i64 q.a, .int .i64 q.b, .int .i64 q.c]
def foursV (qs : List Four) : List Value := qs.flatMap fourV
theorem foursV_len : ∀ qs : List Four, (foursV qs).length = qs.length * 4
  | [] => rfl
  | q :: qs => by
    show (fourV q ++ foursV qs).length = _
    rw [List.length_append, foursV_len qs, List.length_cons]
    show 4 + _ = _
    omega
theorem foursV_at : ∀ (qs : List Four) (k j : Nat), k < qs.length → j < 4 → (foursV qs)[k * 4 + j]? = (fourV (qs.getD k default))[j]?
  | [], k, j, h, _ => absurd h (Nat.not_lt_zero k)
  | q :: qs, 0, j, _, hj => by
    show (fourV q ++ foursV qs)[0 * 4 + j]? = _
    rw [List.getElem?_append_left (by show 0 * 4 + j < 4; omega), Nat.zero_mul, Nat.zero_add]
    rfl
  | q :: qs, k + 1, j, h, hj => by
    show (fourV q ++ foursV qs)[(k + 1) * 4 + j]? = _
    rw [List.getElem?_append_right (by show 4 ≤ (k + 1) * 4 + j; omega), show (k + 1) * 4 + j - (fourV q).length = k * 4 + j by show (k + 1) * 4 + j - 4 = _; omega, foursV_at qs k j (by simp at h; omega) hj]
    rfl
def OwnF (w : World) (base : Nat) (v : Value) (qs : List Four) : Prop := w.ownsRow base 122 4 v qs.length (foursV qs)
section
variable {w w' : World} {base : Nat} {v : Value} {qs : List Four}
theorem OwnF.below (h : OwnF w base v qs) (hb : Below w.heap.size w w') : OwnF w' base v qs :=
  World.ownsRow.kept h (row := none) ⟨hb.os, hb.tape, hb.output, hb.size, fun i hi _ => hb.block i hi⟩ (by cases v.ownBlock <;> simp)
theorem OwnF.kept {r : Option Nat} (h : OwnF w base v qs) (hg : w.grownBy w' r) (hr : v.ownBlock = none ∨ v.ownBlock ≠ r) : OwnF w' base v qs := World.ownsRow.kept h hg hr
theorem ownF_nil (w : World) (base : Nat) : OwnF w base (.slice none 0 0) [] := World.ownsRow_nil _ _ _ _
theorem OwnF.form (h : OwnF w base v qs) (hq : ∀ q ∈ qs, FourOk q) : ∃ A c, v = .slice A qs.length c ∧ FourP w A qs.length (fun k => qs.getD k default) := by
  have hok : ∀ k, k < qs.length → FourOk (qs.getD k default) := fun k hk => by
    rw [List.getD_eq_getElem?_getD, List.getElem?_eq_getElem hk]
    exact hq _ (List.getElem_mem hk)
  rcases h.2 with ⟨rfl, h0⟩ | ⟨g, cap, cur, rfl, hg, hgc, hle, hcm, hcs, hct⟩
  · exact ⟨none, 0, by rw [h0], hok, fun hn => by omega⟩
  · have hgc' : Blk w g 122 cur := hgc
    have each : ∀ k j, k < qs.length → j < 4 → w.cell? ⟨g, k * 4 + j, none⟩ = (fourV (qs.getD k default))[j]? := fun k j hk hj => by
      rw [hgc'.cell, ← foursV_at qs k j hk hj, ← hct, List.getElem?_take_of_lt (by omega)]
      simp
    have ead : ∀ k, (⟨g, 0, none⟩ : Addr).add (k * 4) = ⟨g, k * 4, none⟩ := fun k => by
      unfold Addr.add
      split
      · rename_i h0; rw [h0]
      · simp
    refine ⟨_, cap, rfl, hok, fun hn => ⟨_, rfl, hgc'.lt, fun k hk => ?_⟩⟩
    rw [ead]
    exact ⟨each k 0 hk (by omega), each k 1 hk (by omega), each k 2 hk (by omega), each k 3 hk (by omega)⟩
end
theorem stepInfo : (Tryd.prog.info? 122).map (fun i => (i.zero, i.size, i.bytes)) = some (some (.agg #[.int .i64 0, .int .i64 0, .int .i64 0, .int .i64 0]), 4, 32) := by kernel_rfl
theorem four_reads {w : World} {g : Nat} {q : Four} (h : Blk w g 122 #[.int .i64 q.what, .int .i64 q.a, .int .i64 q.b, .int .i64 q.c]) : Reads w (g + 1) 4 (some ⟨g, 0, none⟩) 1 (fourV q) := by
  refine ⟨rfl, fun _ => ⟨_, rfl, Nat.lt_succ_self _, fun j x hx => ?_⟩⟩
  have c := h.cell j
  have e : (⟨g, 0, none⟩ : Addr).add j = ⟨g, j, none⟩ := by
    unfold Addr.add
    split
    · rename_i h0; rw [h0]
    · simp
  rw [e, c]
  match j, hx with
  | 0, hx => exact hx
  | 1, hx => exact hx
  | 2, hx => exact hx
  | 3, hx => exact hx
  | j + 4, hx => cases hx
/-- append of one step. -/
theorem appF (w : World) {ops : Array Oper} {rest : List Oper} {o : Oper} {a : Act} {Q : Exit → Act → World → Prop} (hgd : o.guard = none) (s x : Operand) (t : TypeId)
    (ho : o.op = .call { callee := .builtin .append, args := #[s, x], argTypes := #[t, t] }) (base : Nat) (ht : Tryd.prog.underlying t = some (.slice 122))
    (v : Value) (qs : List Four) (hs : a.eval s = v) (hown : OwnF w base v qs) (b c : Nat) (q : Four) (hx : a.eval x = .slice (some ⟨b, 0, none⟩) 1 c) (hk : Blk w b 122 #[.int .i64 q.what, .int .i64 q.a, .int .i64 q.b, .int .i64 q.c])
    (hl : qs.length ≤ 1000000) (hbase : base ≤ w.heap.size)
    (h : ∀ v' w', OwnF w' base v' (qs ++ [q]) → w.grownBy w' v.ownBlock → wpList Tryd.prog ops Q rest (a.put o.dst v') w') : wpList Tryd.prog ops Q (o :: rest) a w := by
  obtain ⟨i0, hi, hz0, hz1, hz2⟩ := info_parts stepInfo
  refine wpList_append_any w hgd s x t ho base 122 i0 (.agg #[.int .i64 0, .int .i64 0, .int .i64 0, .int .i64 0]) 4 32 ht hi hz0 hz1 hz2 rfl (by decide) v qs.length _ hs hown (b + 1) _ 1 c (fourV q) hx (four_reads hk) (fun u hu => by
    simp only [fourV, List.mem_cons, List.not_mem_nil, or_false] at hu
    rcases hu with rfl | rfl | rfl | rfl <;> rfl) (by simp only [maxLen]; omega) (by omega) hbase ?_
  intro v' w' ho' hg' hor
  refine h v' w' ?_ hg'
  unfold OwnF
  rw [List.length_append, show foursV (qs ++ [q]) = foursV qs ++ fourV q by unfold foursV; rw [List.flatMap_append]; simp]
  exact ho'
/-- An empty arena of 4000. -/
theorem spA_empty (vars : Int) : SpA (emptyA 4000) vars := by
  refine ⟨wf_empty 4000, ?_, ?_, List.length_replicate ..⟩
  · intro k n e
    rw [got_empty] at e
    cases e
  · intro k n e
    rw [got_empty] at e
    cases e
theorem low3_empty : low3 (emptyA 4000) = 0 := by
  unfold low3 numV
  refine List.length_eq_zero_iff.2 (List.eq_nil_iff_forall_not_mem.2 fun x hx => ?_)
  obtain ⟨m, e, _⟩ := mem_atV.1 hx
  have hn : (emptyA 4000).getD x none = none := by
    unfold emptyA
    rw [List.getD_eq_getElem?_getD, List.getElem?_replicate]
    split <;> rfl
  rw [hn] at e
  cases e
/-- What bdd.New answers. -/
structure SpNew (w : World) (vn : Nat) (S B gn gu gt gc : Nat) (w' : World) : Prop where
  sp : SpM w' S B gn gu gt gc (vn : Int) (emptyA 4000) 0
  own : ∀ k, spB B gn gu gt gc k ∨ k = S → w.heap.size ≤ k
  bel : Below w.heap.size w w'
def SpNewP (w : World) (vn : Nat) (e : Ending) (w' : World) : Prop := ∃ S B gn gu gt gc, e = .returned (.tuple #[.pointer (some ⟨S, 0, none⟩), .nilIface]) ∧ SpNew w vn S B gn gu gt gc w'
theorem sp_new {w w1 : World} {vn B gn gu gt : Nat} (h6 : vn ≤ 6) (ha : ArM w1 B gn gu gt (emptyA 4000)) (hlow : ∀ k, arB B gn gu gt k → w.heap.size ≤ k) (hb : Below w.heap.size w w1) :
    SpNew w vn (w1.heap.size + 1) B gn gu gt w1.heap.size ((w1.alloc (.map #[] 0)).alloc (.cells #[.pointer (some ⟨B, 0, none⟩), .int .i64 (vn : Int), .map (some w1.heap.size)] 112)) := by
  have h1 : Below w1.heap.size w1 ((w1.alloc (.map #[] 0)).alloc (.cells #[.pointer (some ⟨B, 0, none⟩), .int .i64 (vn : Int), .map (some w1.heap.size)] 112)) := ((Below.refl w1.heap.size w1).alloc (Nat.le_refl _) _).alloc (by simp) _
  refine ⟨⟨?_, ha.below h1 (fun k hk => ha.lt hk), ⟨fun _ => none, ?_, fun a b c z e => (by cases e)⟩, spA_empty _, by omega⟩, fun k hk => ?_, hb.trans (h1.mono hb.size)⟩
  · have := Blk.new (w1.alloc (.map #[] 0)) 112 #[.pointer (some ⟨B, 0, none⟩), .int .i64 (vn : Int), .map (some w1.heap.size)]
    simpa using this
  · exact (mapV_made w1).same (Below.heap_alloc _ _ _ (mapV_made (kt := 160) (lit := keyCL) (ok := okC) w1).lt)
  · rcases hk with (hk | hk) | hk
    · exact hlow k hk
    · rw [hk]; exact hb.size
    · rw [hk]; have := hb.size; omega
set_option maxRecDepth 100000 in
set_option maxHeartbeats 4000000 in
theorem bdNew_any (vn : Nat) (h6 : vn ≤ 6) (w : World) : Calls Tryd.prog 23 #[.int .i64 (vn : Int), .int .i64 4000] w (SpNewP w vn) := by
  have hmm := @run_makeMap Tryd.prog
  have HNW := hide (arNew_any 4000 w (by unfold I64; omega))
  have h1b : decide ((vn : Int) < 0) = false := decide_eq_false (by omega)
  have h2b : decide ((24 : Int) < (vn : Int)) = false := decide_eq_false (by omega)
  go_enter Tryd.func23, Tryd.ntmps23
  go_wp2_with fail
  refine (HNW.out).mono ?_
  rintro e w1 (⟨hno, rfl, hb1⟩ | ⟨hyes, B, gn, gu, gt, rfl, har, hlow, hb1⟩)
  · omega
  · have HR := hide (sp_new (vn := vn) h6 har hlow hb1)
    clear har hlow hb1 HNW
    go_wp2
    go_ret2
    exact ⟨_, _, _, _, _, _, rfl, HR.out⟩
end Go.Proofs.YtfbhmkpihmcegaaDoor
