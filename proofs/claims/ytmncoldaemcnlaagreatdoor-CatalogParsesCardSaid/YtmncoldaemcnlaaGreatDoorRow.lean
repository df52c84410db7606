/-
  From the rows' readings to the walks' words, and back: common to all laws of this seat.
-/
import Derived.Test.YtmncoldaemcnlaaGreatDoorRows
import Derived.Test.YtmncoldaemcnlaaGreatDoorAt
import Derived.ProofKit
import Derived.LaidMore
import Derived.LaidHandle
import Derived.OpenShut
import Derived.LaidLaws
import Derived.Stop.Joined
import Derived.Deep.Matrix
import Derived.JoinedOf
import Derived.RowKitTokens
namespace Go.Proofs.YtmncoldaemcnlaaGreatDoor
open Go.ChangeShapes Go.WideShapes Go.ChangeAt Go.WideElems Go.RowKit Go.Deep

theorem own : ownKnob Tryz.prog.godebug = none := by kernel_rfl
theorem gErr : Tryz.prog.globalNamed "errors.errorType" = some 2 := by kernel_rfl
theorem rtRow : (Tryz.prog.cutTypes.find? (·.1 == "internal/reflectlite.rtype")).map (·.2) = some 267 := by kernel_rfl
theorem oneRow : ((List.range 350).filter fun t => Tryz.prog.rowNamed t [101, 114, 114, 111, 114]) = [40] := by kernel_rfl
theorem tsize : Tryz.prog.types.size = 350 := by kernel_rfl
theorem cellsClause : Tryz.prog.cellsOf 125 = 1 := by kernel_rfl
theorem cellsInt : Tryz.prog.cellsOf 3 = 1 := by kernel_rfl
theorem laidOut : laidOutB Tryz.prog = true := by kernel_rfl

/-- Of the listed type's handle: the variable's one cell. -/
theorem cell_of_handle {W : World} {l : List (String × DataW Unit)} (h : handlesMet Tryz.prog l W) (hm : ("errors.errorType", Rows.laid_errors_errorType) ∈ l) :
    W.cell? ⟨2, 0, none⟩ = some (.iface 267 (.agg #[.pointer (some ⟨11, 40, none⟩)])) := by
  obtain ⟨name, u, ty, e1, e2, e3, e4, e5⟩ := h _ hm
  have en : name = [101, 114, 114, 111, 114] := (Option.some.inj e1).symm
  subst en
  obtain rfl := Option.some.inj (rtRow.symm.trans e2)
  have hmm : ty ∈ (List.range 350).filter fun t => Tryz.prog.rowNamed t [101, 114, 114, 111, 114] := List.mem_filter.2 ⟨List.mem_range.2 (by rw [← tsize]; exact e3), e4⟩
  rw [oneRow] at hmm
  obtain rfl := List.mem_singleton.1 hmm
  have hh : typeHandle Tryz.prog 40 = .pointer (some ⟨11, 40, none⟩) := by kernel_rfl
  rw [hh] at e5
  simpa using World.var?_cell gErr e5 0

section
variable {H : Type} {enc : TypeId × Value → H} {W : World}

theorem trodAll_below {ts : List TypeId} : ∀ {vs : List Value} {ds : List (DataW H)} {ps : List MemPlace} {W' : World}, (ts.all fun t => Tryz.prog.readableRec t && decide (t < Tryz.prog.types.size)) = true →
    DataW.TrodAll enc Tryz.prog W 0 (fun _ => true) true ts vs ds ps → Below W.heap.size W W' → (∀ x ∈ ps, x.block < W.heap.size) → DataW.TrodAll enc Tryz.prog W' 0 (fun b => decide (b < W.heap.size)) true ts vs ds ps := by
  induction ts with
  | nil =>
    intro vs ds ps W' _ h _ _
    obtain ⟨rfl, rfl, rfl⟩ := trodAll_nil h
    exact trodAll_mk0
  | cons t ts ih =>
    intro vs ds ps W' hr h hb hlt
    obtain ⟨v, vs', d, ds', p, q, rfl, rfl, rfl, hd, hrest⟩ := trodAll_cons h
    rw [List.all_cons, Bool.and_eq_true, Bool.and_eq_true] at hr
    exact trodAll_cons_mk (Below.trod laidOut hr.1.1 (of_decide_eq_true hr.1.2) hd hb fun x hx => hlt x (List.mem_append.2 (.inl hx)))
      (ih hr.2 hrest hb fun x hx => hlt x (List.mem_append.2 (.inr hx)))

/-- A law's call: it returned true, and all that was there is as it was: the row's post. -/
theorem law_post {f : Func} {s : ChangeSpec} {W' : World} {args : Array Value} {ds gs : List (DataW H)} {before : List MemPlace} (hres : f.resultTypes.toList = [4]) (hsz : f.resultTypes.size = 1)
    (hv : s.vars = []) (hW : DataW.Whole enc Tryz.prog f.params.toList s.vars false W args.toList ds gs before) (hfn : s.fn H ds = { results := [.lit (.bool true)], args := ds })
    (hall : (f.params.toList.all fun t => Tryz.prog.readableRec t && decide (t < Tryz.prog.types.size)) = true) (hb : Below W.heap.size W W') :
    s.post enc Tryz.prog f false true false false W args (.bool true) W' := by
  have hlt : ∀ p ∈ before, p.block < W.heap.size := fun p hp => hW.lt p hp
  have hW0 := hW
  obtain ⟨p, q, hA, hV, rfl, _, _⟩ := hW
  rw [hv] at hV
  obtain ⟨rfl, rfl⟩ : gs = [] ∧ q = [] := by
    cases gs with
    | nil => exact ⟨rfl, hV⟩
    | cons g r => exact absurd hV (by intro h; cases h)
  rw [List.append_nil] at hlt
  refine ⟨ds, [], _, [], p, [], hW0, ?_, ?_, ?_, ?_, fun h => by cases h⟩
  · rw [List.append_nil, hfn, hres, hsz]
    exact trodAll_mk1 (shut_bool Tryz.underlying4 true)
  · rw [List.append_nil, hfn]
    exact trodAll_below hall hA hb hlt
  · rw [List.append_nil, hfn, hv]
    rfl
  · exact hb.frame _

theorem reads_of_cells {a : Addr} {n : Nat} {zs : List Value} (hl : zs.length = n) (hc : ∀ c, c < n → ∃ u, zs[c]? = some u ∧ W.cell? (a.add c) = some u) : Reads W W.heap.size 1 (some a) n zs := by
  refine ⟨by omega, fun hn => ⟨a, rfl, ?_, ?_⟩⟩
  · obtain ⟨u, _, h0⟩ := hc 0 hn
    have := lt_of_cell h0
    rw [block_of_add] at this
    exact this
  · intro j u hu
    have hj : j < n := by
      rw [← hl]
      rcases Nat.lt_or_ge j zs.length with h | h
      · exact h
      · rw [List.getElem?_eq_none h] at hu; cases hu
    obtain ⟨u', h1, h2⟩ := hc j hj
    rw [hu] at h1
    cases h1
    exact h2

theorem ints_of_row {A : Option Addr} {L C : Nat} {Z : List Int} (h1 : L ≤ C) (h2 : C ≤ maxLen) (h3 : Z.length = C) (h4 : ∀ n ∈ Z, (Lit.int .i64 n).wf = true) (h5 : A = none → C = 0)
    (h6 : ∀ a', A = some a' → ∀ c, c < C → W.cell? (a'.add c) = some (.int .i64 (Z.getD c 0))) : Ints W W.heap.size A L (Z.take L) := by
  refine ⟨by rw [List.length_take]; omega, by omega, fun z hz => bounds_i64 (h4 z (List.mem_of_mem_take hz)), ?_⟩
  cases A with
  | none =>
    have := h5 rfl
    obtain rfl : L = 0 := by omega
    rw [List.take_zero]
    exact Reads.none_
  | some a =>
    refine reads_of_cells (by rw [List.length_map, List.length_take]; omega) fun c hc => ⟨.int .i64 (Z.getD c 0), ?_, h6 a rfl c (by omega)⟩
    rw [List.getElem?_map, List.getElem?_take_of_lt hc, List.getElem?_eq_getElem (by omega), List.getD_eq_getElem?_getD, List.getElem?_eq_getElem (by omega)]
    rfl

set_option maxRecDepth 100000 in
/-- An argument '[]api.Clause', opened. -/
theorem open_cls {v : Value} {d : DataW H} {p : List MemPlace} {j : Nat} (hv : Value.okWide Tryz.prog W .any j 57 v) (h : DataW.Trod enc Tryz.prog W 0 (fun _ => true) true 57 v d p) :
    ∃ A n c ls, v = .slice A n c ∧ n ≤ c ∧ Cls W W.heap.size A n ls := by
  obtain ⟨a0, len, cap, rfl⟩ := okWide_slice Tryz.underlying57 hv
  obtain ⟨fuel, hf⟩ := h
  rcases open_int_rows Tryz.underlying57 Tryz.underlying125 Tryz.underlying3 cellsClause cellsInt hf with ⟨hcs, _⟩ | ⟨a, len', cap', A, L, C, Z, hcs, _, hlc, hcm, _, hr⟩
  · simp only [Value.cells, List.cons.injEq, and_true] at hcs
    cases hcs
    exact ⟨none, 0, 0, [], rfl, Nat.le_refl _, rfl, Nat.zero_le _, [], Reads.none_, fun k hk => absurd hk (Nat.not_lt_zero _)⟩
  · simp only [Value.cells, List.cons.injEq, and_true] at hcs
    cases hcs
    refine ⟨some a, len, cap, (List.range len).map fun r => (Z r).take (L r), rfl, hlc, by simp, by omega, (List.range len).map fun r => .slice (A r) (L r) (C r), ?_, ?_⟩
    · refine reads_of_cells (by simp) fun c hc => ⟨.slice (A c) (L c) (C c), by simp [hc], (hr c (by omega)).1⟩
    · intro k hk
      obtain ⟨_, h1, h2, h3, h4, h5, h6⟩ := hr k (by omega)
      refine ⟨A k, L k, C k, by simp [hk], h1, ?_⟩
      rw [show ((List.range len).map fun r => (Z r).take (L r)).getD k [] = (Z k).take (L k) by simp [List.getD_eq_getElem?_getD, hk]]
      exact ints_of_row h1 h2 h3 h4 h5 fun a' ha c hc => (h6 a' ha).2 c hc

theorem ints_of_cells {a : Addr} {n c : Nat} {zs : List Int} (hl : n ≤ c) (hm : c ≤ maxLen) (hz : zs.length = c) (hc : ∀ j, j < c → W.cell? (a.add j) = some (.int .i64 (zs.getD j 0))) (hw : ∀ z ∈ zs, (Lit.int .i64 z).wf = true) : Ints W W.heap.size (some a) n (zs.take n) :=
  ints_of_row hl hm hz hw (fun h => by cases h) (fun a' ha c hc' => by cases ha; exact hc c hc')

set_option maxRecDepth 100000 in
/-- An argument '[]int', opened. -/
theorem open_intsl {v : Value} {d : DataW H} {p : List MemPlace} {j : Nat} (hv : Value.okWide Tryz.prog W .any j 24 v) (h : DataW.Trod enc Tryz.prog W 0 (fun _ => true) true 24 v d p) :
    ∃ A n c zs, v = .slice A n c ∧ n ≤ c ∧ Ints W W.heap.size A n zs := by
  obtain ⟨a0, len, cap, rfl⟩ := okWide_slice Tryz.underlying24 hv
  obtain ⟨fuel, hf⟩ := h
  rcases open_ints Tryz.underlying24 Tryz.underlying3 cellsInt hf with ⟨hcs, _⟩ | ⟨a, len', cap', zs, hcs, _, hl, hm, hz, _, hcell, hw⟩
  · simp only [Value.cells, List.cons.injEq, and_true] at hcs
    cases hcs
    exact ⟨none, 0, 0, [], rfl, Nat.le_refl _, Ints.nil _ _⟩
  · simp only [Value.cells, List.cons.injEq, and_true] at hcs
    cases hcs
    exact ⟨some a, len, cap, zs.take len, rfl, hl, ints_of_cells hl hm (by simpa using hz) (fun j hj => hcell j (by simp at hz; omega)) hw⟩
set_option maxRecDepth 100000 in
/-- An argument 'api.Clause', opened. -/
theorem open_clause {v : Value} {d : DataW H} {p : List MemPlace} {j : Nat} (hv : Value.okWide Tryz.prog W .any j 125 v) (h : DataW.Trod enc Tryz.prog W 0 (fun _ => true) true 125 v d p) :
    ∃ A n c zs, v = .slice A n c ∧ n ≤ c ∧ Ints W W.heap.size A n zs := by
  obtain ⟨a0, len, cap, rfl⟩ := okWide_slice Tryz.underlying125 hv
  obtain ⟨fuel, hf⟩ := h
  rcases open_ints Tryz.underlying125 Tryz.underlying3 cellsInt hf with ⟨hcs, _⟩ | ⟨a, len', cap', zs, hcs, _, hl, hm, hz, _, hcell, hw⟩
  · simp only [Value.cells, List.cons.injEq, and_true] at hcs
    cases hcs
    exact ⟨none, 0, 0, [], rfl, Nat.le_refl _, Ints.nil _ _⟩
  · simp only [Value.cells, List.cons.injEq, and_true] at hcs
    cases hcs
    exact ⟨some a, len, cap, zs.take len, rfl, hl, ints_of_cells hl hm (by simpa using hz) (fun j hj => hcell j (by simp at hz; omega)) hw⟩
end
end Go.Proofs.YtmncoldaemcnlaaGreatDoor
