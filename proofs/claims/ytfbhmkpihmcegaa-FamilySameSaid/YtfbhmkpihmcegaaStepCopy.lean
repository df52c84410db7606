/-
  The law's copy of plain steps as the document's: an append of one step, and what the loop holds.
-/
import Derived.Test.YtfbhmkpihmcegaaFourOwn
import Derived.Deep.RegionHeld3
namespace Go.Proofs.Ytfbhmkpihmcegaa
open Go.RowKit Go.Maps

theorem results_tmp4 {fn : Func} {t u v x : Tmp} (h : fn.results = #[.tmp t, .tmp u, .tmp v, .tmp x]) (tmps : Array Value) (P : Program) (w : World) :
    (results fn tmps).run P w = .ok (.tuple #[tmps.getD t undef, tmps.getD u undef, tmps.getD v undef, tmps.getD x undef]) w := by
  simp [results, h]
/-- Where the copying loop stands. -/
structure CopI (w w1 : World) (q : Nat → Four) (i : Nat) (vo : Value) (wr : World) : Prop where
  bel : Below w1.heap.size w1 wr
  own : OwnF wr w1.heap.size vo ((List.range i).map q)
theorem fours_get {q : Nat → Four} {n k : Nat} (hk : k < n) : ((List.range n).map q).getD k default = q k := by
  rw [List.getD_eq_getElem?_getD, List.getElem?_map, List.getElem?_range hk]
  rfl
theorem FourP.swap {w : World} {A : Option Addr} {n : Nat} {q q' : Nat → Four} (h : FourP w A n q) (he : ∀ k, k < n → q k = q' k) : FourP w A n q' := by
  refine ⟨fun k hk => by rw [← he k hk]; exact h.1 k hk, fun hn => ?_⟩
  obtain ⟨ad, e, hlt, hc⟩ := h.2 hn
  exact ⟨ad, e, hlt, fun k hk => by rw [← he k hk]; exact hc k hk⟩
theorem FourP.fr {S : Nat → Prop} {w w' : World} {A : Option Addr} {n : Nat} {q : Nat → Four} (h : FourP w A n q) (hf : Fr S w w') (hn : ∀ ad, A = some ad → ¬ S ad.block) : FourP w' A n q := by
  refine ⟨h.1, fun h0 => ?_⟩
  obtain ⟨ad, e, hlt, hc⟩ := h.2 h0
  have hS := hn ad e
  have each : ∀ p : Addr, p.block = ad.block → w'.cell? p = w.cell? p := fun p hp => hf.cell (by rw [hp]; exact hlt) (by rw [hp]; exact hS)
  refine ⟨ad, e, Nat.lt_of_lt_of_le hlt hf.size, fun k hk => ?_⟩
  obtain ⟨c0, c1, c2, c3⟩ := hc k hk
  refine ⟨?_, ?_, ?_, ?_⟩
  · rw [each _ (block_of_add ad (k * 4))]; exact c0
  · rw [each ⟨(ad.add (k * 4)).block, (ad.add (k * 4)).off + 1, none⟩ (block_of_add ad (k * 4))]; exact c1
  · rw [each ⟨(ad.add (k * 4)).block, (ad.add (k * 4)).off + 2, none⟩ (block_of_add ad (k * 4))]; exact c2
  · rw [each ⟨(ad.add (k * 4)).block, (ad.add (k * 4)).off + 3, none⟩ (block_of_add ad (k * 4))]; exact c3
theorem CopI.form {w w1 wr : World} {q : Nat → Four} {n : Nat} {vo : Value} (h : CopI w w1 q n vo wr) (hq : ∀ k, k < n → FourOk (q k)) : ∃ A c, vo = .slice A n c ∧ FourP wr A n q ∧ ∀ ad, A = some ad → w1.heap.size ≤ ad.block := by
  have hl : ((List.range n).map q).length = n := by simp
  obtain ⟨A, c, e, hF⟩ := h.own.form (fun x hx => by
    obtain ⟨k, hk, rfl⟩ := List.mem_map.1 hx
    exact hq k (List.mem_range.1 hk))
  rw [hl] at e hF
  subst e
  refine ⟨A, c, rfl, hF.swap fun k hk => fours_get hk, fun ad e => ?_⟩
  subst e
  exact (World.ownsRow.lt h.own ad.block rfl).1
theorem keep4 {w w' : World} {a : Addr} {x0 x1 x2 x3 : Value} (h : w.cell? a = some x0 ∧ w.cell? ⟨a.block, a.off + 1, none⟩ = some x1 ∧ w.cell? ⟨a.block, a.off + 2, none⟩ = some x2 ∧ w.cell? ⟨a.block, a.off + 3, none⟩ = some x3) (hb : Below w.heap.size w w') :
    w'.cell? a = some x0 ∧ w'.cell? ⟨a.block, a.off + 1, none⟩ = some x1 ∧ w'.cell? ⟨a.block, a.off + 2, none⟩ = some x2 ∧ w'.cell? ⟨a.block, a.off + 3, none⟩ = some x3 := by
  have hl := World.block_lt_of_cell? w _ h.1
  exact ⟨(hb.cell hl).trans h.1, (hb.cell (p := ⟨a.block, a.off + 1, none⟩) hl).trans h.2.1, (hb.cell (p := ⟨a.block, a.off + 2, none⟩) hl).trans h.2.2.1, (hb.cell (p := ⟨a.block, a.off + 3, none⟩) hl).trans h.2.2.2⟩
/-- append of one step in a region that draws its order. -/
theorem stepF4 (w : World) {ops : Array Oper} {o : Oper} {a : Act} {K : Act → World → Prop} {Q : Exit → Act → World → Prop} {E : Prop} (hgd : o.guard = none) (s x : Operand) (t : TypeId)
    (ho : o.op = .call { callee := .builtin .append, args := #[s, x], argTypes := #[t, t] }) (base : Nat) (ht : Try.prog.underlying t = some (.slice 58))
    (v : Value) (qs : List Four) (hs : a.eval s = v) (hown : OwnF w base v qs) (b c : Nat) (q : Four) (hx : a.eval x = .slice (some ⟨b, 0, none⟩) 1 c) (hk : Blk w b 58 #[.int .i64 q.what, .int .i64 q.a, .int .i64 q.b, .int .i64 q.c])
    (hl : qs.length ≤ 1000000) (hbase : base ≤ w.heap.size)
    (h : ∀ v' w', OwnF w' base v' (qs ++ [q]) → w.grownBy w' v.ownBlock → K (a.put o.dst v') w') :
    if Region.wanted o (yielded ops a.tmps) = true then Oper.wp Try.prog o a w K Q else E := by
  obtain ⟨i0, hi, hz0, hz1, hz2⟩ := info_parts stepInfo
  refine step_append_any w hgd s x t ho base 58 i0 (.agg #[.int .i64 0, .int .i64 0, .int .i64 0, .int .i64 0]) 4 32 ht hi hz0 hz1 hz2 rfl (by decide) v qs.length _ hs hown (b + 1) _ 1 c (fourV q) hx (four_reads hk) (fun u hu => by
    simp only [fourV, List.mem_cons, List.not_mem_nil, or_false] at hu
    rcases hu with rfl | rfl | rfl | rfl <;> rfl) (by simp only [maxLen]; omega) (by omega) hbase ?_
  intro v' w' ho' hg' hor
  refine h v' w' ?_ hg'
  unfold OwnF
  rw [List.length_append, show foursV (qs ++ [q]) = foursV qs ++ fourV q by unfold foursV; rw [List.flatMap_append]; simp]
  exact ho'
end Go.Proofs.Ytfbhmkpihmcegaa
