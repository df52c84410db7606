/-
  plain's Functions. Rows of plain steps (four ints each) of the call's own; bdd.New. The law's copy of plain steps as the document's: an append of one step, and what the loop holds.
-/
import Derived.Test.YtdlcldhnbhlikaaBddFunP
import Derived.Deep.RegionHeld3
import Derived.Test.YtdlcldhnbhlikaaBddTabM
namespace Go.Proofs.Ytdlcldhnbhlikaa
open Go.RowKit Go.Maps

theorem ownI_two (w : World) (base : Nat) (hb : base ≤ w.heap.size) : OwnI (w.alloc (.cells #[.int .i64 0, .int .i64 1] 3)) base (.slice (some ⟨w.heap.size, 0, none⟩) 2 2) [0, 1] :=
  ⟨rfl, .inr ⟨w.heap.size, 2, #[.int .i64 0, .int .i64 1], rfl, hb, Blk.new w _ _, Nat.le_refl _, by simp [maxLen], rfl, rfl⟩⟩
end Go.Proofs.Ytdlcldhnbhlikaa
namespace Go.Proofs.Ytdlcldhnbhlikaa
open Go.RowKit Go.Maps

def fourV (q : Four) : List Value := [.int .i64 q.what, .int .i64 q.a, .int .i64 q.b, .int .i64 q.c]
def foursV (qs : List Four) : List Value := qs.flatMap fourV
theorem foursV_len : ∀ qs : List Four, (foursV qs).length = qs.length * 4
  | [] => rfl
  | q :: qs => by
    show (fourV q ++ foursV qs).length = _
    rw [List.length_append, foursV_len qs, List.length_cons]
    show 4 + _ = _
    omega
theorem foursV_at : ∀ (qs : List Four) (k j : Nat), k < qs.length → j < 4 → (foursV qs)[k * 4 + j]? = (fourV (qs.getD k default))[j]?
  | [], k, j, h, _ => absurd h (Nat.not_lt_zero k)
  | q :: qs, 0, j, _, hj => by
    show (fourV q ++ foursV qs)[0 * 4 + j]? = _
    rw [List.getElem?_append_left (by show 0 * 4 + j < 4; omega), Nat.zero_mul, Nat.zero_add]
    rfl
  | q :: qs, k + 1, j, h, hj => by
    show (fourV q ++ foursV qs)[(k + 1) * 4 + j]? = _
    rw [List.getElem?_append_right (by show 4 ≤ (k + 1) * 4 + j; omega), show (k + 1) * 4 + j - (fourV q).length = k * 4 + j by show (k + 1) * 4 + j - 4 = _; omega, foursV_at qs k j (by simp at h; omega) hj]
    rfl
def OwnF (w : World) (base : Nat) (v : Value) (qs : List Four) : Prop := w.ownsRow base 46 4 v qs.length (foursV qs)
section
variable {w w' : World} {base : Nat} {v : Value} {qs : List Four}
theorem OwnF.below (h : OwnF w base v qs) (hb : Below w.heap.size w w') : OwnF w' base v qs :=
  World.ownsRow.kept h (row := none) ⟨hb.os, hb.tape, hb.output, hb.size, fun i hi _ => hb.block i hi⟩ (by cases v.ownBlock <;> simp)
theorem OwnF.kept {r : Option Nat} (h : OwnF w base v qs) (hg : w.grownBy w' r) (hr : v.ownBlock = none ∨ v.ownBlock ≠ r) : OwnF w' base v qs := World.ownsRow.kept h hg hr
theorem ownF_nil (w : World) (base : Nat) : OwnF w base (.slice none 0 0) [] := World.ownsRow_nil _ _ _ _
theorem OwnF.form (h : OwnF w base v qs) (hq : ∀ q ∈ qs, FourOk q) : ∃ A c, v = .slice A qs.length c ∧ FourP w A qs.length (fun k => qs.getD k default) := by
  have hok : ∀ k, k < qs.length → FourOk (qs.getD k default) := fun k hk => by
    rw [List.getD_eq_getElem?_getD, List.getElem?_eq_getElem hk]
    exact hq _ (List.getElem_mem hk)
  rcases h.2 with ⟨rfl, h0⟩ | ⟨g, cap, cur, rfl, hg, hgc, hle, hcm, hcs, hct⟩
  · exact ⟨none, 0, by rw [h0], hok, fun hn => by omega⟩
  · have hgc' : Blk w g 46 cur := hgc
    have each : ∀ k j, k < qs.length → j < 4 → w.cell? ⟨g, k * 4 + j, none⟩ = (fourV (qs.getD k default))[j]? := fun k j hk hj => by
      rw [hgc'.cell, ← foursV_at qs k j hk hj, ← hct, List.getElem?_take_of_lt (by omega)]
      simp
    have ead : ∀ k, (⟨g, 0, none⟩ : Addr).add (k * 4) = ⟨g, k * 4, none⟩ := fun k => by
      unfold Addr.add
      split
      · rename_i h0; rw [h0]
      · simp
    refine ⟨_, cap, rfl, hok, fun hn => ⟨_, rfl, hgc'.lt, fun k hk => ?_⟩⟩
    rw [ead]
    exact ⟨each k 0 hk (by omega), each k 1 hk (by omega), each k 2 hk (by omega), each k 3 hk (by omega)⟩
end
theorem stepInfo : (Try.prog.info? 46).map (fun i => (i.zero, i.size, i.bytes)) = some (some (.agg #[.int .i64 0, .int .i64 0, .int .i64 0, .int .i64 0]), 4, 32) := by kernel_rfl
theorem four_reads {w : World} {g : Nat} {q : Four} (h : Blk w g 46 #[.int .i64 q.what, .int .i64 q.a, .int .i64 q.b, .int .i64 q.c]) : Reads w (g + 1) 4 (some ⟨g, 0, none⟩) 1 (fourV q) := by
  refine ⟨rfl, fun _ => ⟨_, rfl, Nat.lt_succ_self _, fun j x hx => ?_⟩⟩
  have c := h.cell j
  have e : (⟨g, 0, none⟩ : Addr).add j = ⟨g, j, none⟩ := by
    unfold Addr.add
    split
    · rename_i h0; rw [h0]
    · simp
  rw [e, c]
  match j, hx with
  | 0, hx => exact hx
  | 1, hx => exact hx
  | 2, hx => exact hx
  | 3, hx => exact hx
  | j + 4, hx => cases hx
/-- append of one step. -/
theorem appF (w : World) {ops : Array Oper} {rest : List Oper} {o : Oper} {a : Act} {Q : Exit → Act → World → Prop} (hgd : o.guard = none) (s x : Operand) (t : TypeId)
    (ho : o.op = .call { callee := .builtin .append, args := #[s, x], argTypes := #[t, t] }) (base : Nat) (ht : Try.prog.underlying t = some (.slice 46))
    (v : Value) (qs : List Four) (hs : a.eval s = v) (hown : OwnF w base v qs) (b c : Nat) (q : Four) (hx : a.eval x = .slice (some ⟨b, 0, none⟩) 1 c) (hk : Blk w b 46 #[.int .i64 q.what, .int .i64 q.a, .int .i64 q.b, .int .i64 q.c])
    (hl : qs.length ≤ 1000000) (hbase : base ≤ w.heap.size)
    (h : ∀ v' w', OwnF w' base v' (qs ++ [q]) → w.grownBy w' v.ownBlock → wpList Try.prog ops Q rest (a.put o.dst v') w') : wpList Try.prog ops Q (o :: rest) a w := by
  obtain ⟨i0, hi, hz0, hz1, hz2⟩ := info_parts stepInfo
  refine wpList_append_any w hgd s x t ho base 46 i0 (.agg #[.int .i64 0, .int .i64 0, .int .i64 0, .int .i64 0]) 4 32 ht hi hz0 hz1 hz2 rfl (by decide) v qs.length _ hs hown (b + 1) _ 1 c (fourV q) hx (four_reads hk) (fun u hu => by
    simp only [fourV, List.mem_cons, List.not_mem_nil, or_false] at hu
    rcases hu with rfl | rfl | rfl | rfl <;> rfl) (by simp only [maxLen]; omega) (by omega) hbase ?_
  intro v' w' ho' hg' hor
  refine h v' w' ?_ hg'
  unfold OwnF
  rw [List.length_append, show foursV (qs ++ [q]) = foursV qs ++ fourV q by unfold foursV; rw [List.flatMap_append]; simp]
  exact ho'
/-- An empty arena of 4000. -/
theorem spA_empty (vars : Int) : SpA (emptyA 4000) vars := by
  refine ⟨wf_empty 4000, ?_, ?_, List.length_replicate ..⟩
  · intro k n e
    rw [got_empty] at e
    cases e
  · intro k n e
    rw [got_empty] at e
    cases e
theorem low3_empty : low3 (emptyA 4000) = 0 := by
  unfold low3 numV
  refine List.length_eq_zero_iff.2 (List.eq_nil_iff_forall_not_mem.2 fun x hx => ?_)
  obtain ⟨m, e, _⟩ := mem_atV.1 hx
  have hn : (emptyA 4000).getD x none = none := by
    unfold emptyA
    rw [List.getD_eq_getElem?_getD, List.getElem?_replicate]
    split <;> rfl
  rw [hn] at e
  cases e
end Go.Proofs.Ytdlcldhnbhlikaa
namespace Go.Proofs.Ytdlcldhnbhlikaa
open Go.RowKit Go.Maps

theorem results_tmp4 {fn : Func} {t u v x : Tmp} (h : fn.results = #[.tmp t, .tmp u, .tmp v, .tmp x]) (tmps : Array Value) (P : Program) (w : World) :
    (results fn tmps).run P w = .ok (.tuple #[tmps.getD t undef, tmps.getD u undef, tmps.getD v undef, tmps.getD x undef]) w := by
  simp [results, h]
/-- Where the copying loop stands. -/
structure CopI (w w1 : World) (q : Nat → Four) (i : Nat) (vo : Value) (wr : World) : Prop where
  bel : Below w1.heap.size w1 wr
  own : OwnF wr w1.heap.size vo ((List.range i).map q)
theorem fours_get {q : Nat → Four} {n k : Nat} (hk : k < n) : ((List.range n).map q).getD k default = q k := by
  rw [List.getD_eq_getElem?_getD, List.getElem?_map, List.getElem?_range hk]
  rfl
theorem FourP.swap {w : World} {A : Option Addr} {n : Nat} {q q' : Nat → Four} (h : FourP w A n q) (he : ∀ k, k < n → q k = q' k) : FourP w A n q' := by
  refine ⟨fun k hk => by rw [← he k hk]; exact h.1 k hk, fun hn => ?_⟩
  obtain ⟨ad, e, hlt, hc⟩ := h.2 hn
  exact ⟨ad, e, hlt, fun k hk => by rw [← he k hk]; exact hc k hk⟩
theorem FourP.fr {S : Nat → Prop} {w w' : World} {A : Option Addr} {n : Nat} {q : Nat → Four} (h : FourP w A n q) (hf : Fr S w w') (hn : ∀ ad, A = some ad → ¬ S ad.block) : FourP w' A n q := by
  refine ⟨h.1, fun h0 => ?_⟩
  obtain ⟨ad, e, hlt, hc⟩ := h.2 h0
  have hS := hn ad e
  have each : ∀ p : Addr, p.block = ad.block → w'.cell? p = w.cell? p := fun p hp => hf.cell (by rw [hp]; exact hlt) (by rw [hp]; exact hS)
  refine ⟨ad, e, Nat.lt_of_lt_of_le hlt hf.size, fun k hk => ?_⟩
  obtain ⟨c0, c1, c2, c3⟩ := hc k hk
  refine ⟨?_, ?_, ?_, ?_⟩
  · rw [each _ (block_of_add ad (k * 4))]; exact c0
  · rw [each ⟨(ad.add (k * 4)).block, (ad.add (k * 4)).off + 1, none⟩ (block_of_add ad (k * 4))]; exact c1
  · rw [each ⟨(ad.add (k * 4)).block, (ad.add (k * 4)).off + 2, none⟩ (block_of_add ad (k * 4))]; exact c2
  · rw [each ⟨(ad.add (k * 4)).block, (ad.add (k * 4)).off + 3, none⟩ (block_of_add ad (k * 4))]; exact c3
theorem CopI.form {w w1 wr : World} {q : Nat → Four} {n : Nat} {vo : Value} (h : CopI w w1 q n vo wr) (hq : ∀ k, k < n → FourOk (q k)) : ∃ A c, vo = .slice A n c ∧ FourP wr A n q ∧ ∀ ad, A = some ad → w1.heap.size ≤ ad.block := by
  have hl : ((List.range n).map q).length = n := by simp
  obtain ⟨A, c, e, hF⟩ := h.own.form (fun x hx => by
    obtain ⟨k, hk, rfl⟩ := List.mem_map.1 hx
    exact hq k (List.mem_range.1 hk))
  rw [hl] at e hF
  subst e
  refine ⟨A, c, rfl, hF.swap fun k hk => fours_get hk, fun ad e => ?_⟩
  subst e
  exact (World.ownsRow.lt h.own ad.block rfl).1
theorem keep4 {w w' : World} {a : Addr} {x0 x1 x2 x3 : Value} (h : w.cell? a = some x0 ∧ w.cell? ⟨a.block, a.off + 1, none⟩ = some x1 ∧ w.cell? ⟨a.block, a.off + 2, none⟩ = some x2 ∧ w.cell? ⟨a.block, a.off + 3, none⟩ = some x3) (hb : Below w.heap.size w w') :
    w'.cell? a = some x0 ∧ w'.cell? ⟨a.block, a.off + 1, none⟩ = some x1 ∧ w'.cell? ⟨a.block, a.off + 2, none⟩ = some x2 ∧ w'.cell? ⟨a.block, a.off + 3, none⟩ = some x3 := by
  have hl := World.block_lt_of_cell? w _ h.1
  exact ⟨(hb.cell hl).trans h.1, (hb.cell (p := ⟨a.block, a.off + 1, none⟩) hl).trans h.2.1, (hb.cell (p := ⟨a.block, a.off + 2, none⟩) hl).trans h.2.2.1, (hb.cell (p := ⟨a.block, a.off + 3, none⟩) hl).trans h.2.2.2⟩
/-- append of one step in a region that draws its order. -/
theorem stepF4 (w : World) {ops : Array Oper} {o : Oper} {a : Act} {K : Act → World → Prop} {Q : Exit → Act → World → Prop} {E : Prop} (hgd : o.guard = none) (s x : Operand) (t : TypeId)
    (ho : o.op = .call { callee := .builtin .append, args := #[s, x], argTypes := #[t, t] }) (base : Nat) (ht : Try.prog.underlying t = some (.slice 46))
    (v : Value) (qs : List Four) (hs : a.eval s = v) (hown : OwnF w base v qs) (b c : Nat) (q : Four) (hx : a.eval x = .slice (some ⟨b, 0, none⟩) 1 c) (hk : Blk w b 46 #[.int .i64 q.what, .int .i64 q.a, .int .i64 q.b, .int .i64 q.c])
    (hl : qs.length ≤ 1000000) (hbase : base ≤ w.heap.size)
    (h : ∀ v' w', OwnF w' base v' (qs ++ [q]) → w.grownBy w' v.ownBlock → K (a.put o.dst v') w') :
    if Region.wanted o (yielded ops a.tmps) = true then Oper.wp Try.prog o a w K Q else E := by
  obtain ⟨i0, hi, hz0, hz1, hz2⟩ := info_parts stepInfo
  refine step_append_any w hgd s x t ho base 46 i0 (.agg #[.int .i64 0, .int .i64 0, .int .i64 0, .int .i64 0]) 4 32 ht hi hz0 hz1 hz2 rfl (by decide) v qs.length _ hs hown (b + 1) _ 1 c (fourV q) hx (four_reads hk) (fun u hu => by
    simp only [fourV, List.mem_cons, List.not_mem_nil, or_false] at hu
    rcases hu with rfl | rfl | rfl | rfl <;> rfl) (by simp only [maxLen]; omega) (by omega) hbase ?_
  intro v' w' ho' hg' hor
  refine h v' w' ?_ hg'
  unfold OwnF
  rw [List.length_append, show foursV (qs ++ [q]) = foursV qs ++ fourV q by unfold foursV; rw [List.flatMap_append]; simp]
  exact ho'
end Go.Proofs.Ytdlcldhnbhlikaa
