/-
  Rows that list what reading numbers leans on: what the condition gives a walk; a start that meets it; the wrap with the world's shape. Rows that list what reading catalogs leans on: what the condition gives a walk; a start that meets it.
-/
import Derived.Test.YtmncoldaemcnlaaGreatDoorRow
import Derived.Test.YtmncoldaemcnlaaGreatDoorVerB
import Derived.Lay
import Derived.LaidHandle
import Derived.Lib.LaidTab
import Derived.Stop.LaidErr
import Derived.Shelf.Vars
import Derived.Handed
import Derived.Test.YtmncoldaemcnlaaGreatDoorCatLine
import Derived.ChangeArms
import Derived.ChangeSlices
namespace Go.Proofs.YtmncoldaemcnlaaGreatDoor
open Go.ChangeShapes Go.WideShapes Go.ChangeAt Go.WideElems Go.RowKit Go.Deep

def laidV : List (String × DataW Unit) := [("math/bits.deBruijn32tab", Rows.laid_math_bits_deBruijn32tab), ("math/bits.deBruijn64tab", Rows.laid_math_bits_deBruijn64tab), ("internal/strconv.uint64pow10", Rows.laid_internal_strconv_uint64pow10), ("unicode/utf8.acceptRanges", Rows.laid_unicode_utf8_acceptRanges), ("errors.errorType", Rows.laid_errors_errorType), ("strconv.ErrRange", Rows.laid_strconv_ErrRange), ("strconv.ErrSyntax", Rows.laid_strconv_ErrSyntax), ("unicode/utf8.first", Rows.laid_unicode_utf8_first)]
def laidV2 : List (String × DataW Unit) := [("math/bits.deBruijn32tab", Rows.laid_math_bits_deBruijn32tab), ("math/bits.deBruijn64tab", Rows.laid_math_bits_deBruijn64tab), ("internal/strconv.uint64pow10", Rows.laid_internal_strconv_uint64pow10), ("unicode/utf8.acceptRanges", Rows.laid_unicode_utf8_acceptRanges), ("strconv.ErrRange", Rows.laid_strconv_ErrRange), ("strconv.ErrSyntax", Rows.laid_strconv_ErrSyntax), ("unicode/utf8.first", Rows.laid_unicode_utf8_first)]
noncomputable def startV (os : Os) : World := (World.doorLaid Tryz.prog 400 os).layVars Tryz.prog laidV2
theorem startV_os (os : Os) : (startV os).os = os := (World.layVars_os _ _ _).trans rfl
theorem startV_two (os : Os) (args : Array Value) : laidMet Tryz.prog laidV2 ((startV os).forCall (fun _ _ => 0) ⟨#[], args, []⟩).memory := by
  have e1 : (laidV2.filter fun x => (laidV2.map (·.1)).contains x.1) = laidV2 := by kernel_rfl
  have e2 : (laidV2.filter fun x => !(laidV2.map (·.1)).contains x.1) = [] := by kernel_rfl
  have h : laidMet Tryz.prog laidV2 (startV os) := laidMet_layVars (w0 := World.doorLaid Tryz.prog 400 os) (laidV2.map (·.1)) [] (by rw [e1]; rfl) (by rw [e1]; kernel_rfl) (by rw [e1]; kernel_rfl) (by rw [e2]; exact LaidIn.none)
  exact h.of_heap (by simp [World.memory, World.forCall, Input.heap])
theorem startV_met (os : Os) (args : Array Value) : laidMetH Tryz.prog laidV ((startV os).forCall (fun _ _ => 0) ⟨#[], args, []⟩).memory :=
  laidMetH_of_parts (startV_two os args) (by kernel_rfl)
theorem gPowV : Tryz.prog.globalNamed "internal/strconv.uint64pow10" = some 8 := by kernel_rfl
theorem tPowV : (Tryz.prog.globals[8]?).map (·.type) = some 305 := by kernel_rfl
theorem dPowV : (Rows.laid_internal_strconv_uint64pow10 : DataW Unit) = Lib.tabData .u64 Lib.pow10Tab := by kernel_rfl
theorem cellsU64V : Tryz.prog.cellsOf 224 = 1 := by kernel_rfl
theorem cellsPowV : Tryz.prog.cellsOf 305 = 20 := by kernel_rfl
theorem gRngV : Tryz.prog.globalNamed "strconv.ErrRange" = some 7 := by kernel_rfl
theorem tRngV : (Tryz.prog.globals[7]?).map (·.type) = some 40 := by kernel_rfl
theorem gSynV : Tryz.prog.globalNamed "strconv.ErrSyntax" = some 6 := by kernel_rfl
theorem tSynV : (Tryz.prog.globals[6]?).map (·.type) = some 40 := by kernel_rfl
/-- A sentinel's cell. -/
theorem cell_of_sentinel {n nm : String} {d : DataW Unit} {r : List (String × DataW Unit)} {W : World} {g : Nat} (h : laidMet Tryz.prog ((n, .iface nm d) :: r) W) (hg : Tryz.prog.globalNamed n = some g) (ht : (Tryz.prog.globals[g]?).map (·.type) = some 40) :
    ∃ tp p, W.cell? ⟨g, 0, none⟩ = some (.iface tp p) := by
  obtain ⟨ps, ⟨g0, t0, cs0, f0, p0, q0, hg0, ht0, hv0, hd0, _, e0⟩, _, hrows⟩ := h
  obtain rfl := Option.some.inj (hg.symm.trans hg0)
  obtain rfl := Option.some.inj (ht.symm.trans ht0)
  obtain ⟨f1, u, v, hcs, _, _⟩ := iface_of_trod Tryz.underlying40 hd0
  refine ⟨u, v, ?_⟩
  rw [World.var?_cell hg0 hv0 0, ← Array.getElem?_toList, hcs]
  rfl
theorem globT_of_head {r : List (String × DataW Unit)} {W : World} (h : laidMet Tryz.prog (("internal/strconv.uint64pow10", Rows.laid_internal_strconv_uint64pow10) :: r) W) : GlobT W := by
  obtain ⟨ps, ⟨g2, t2, cs2, f2, p2, q2, hg2, ht2, hv2, hd2, _, _⟩, _, _⟩ := h
  obtain rfl := Option.some.inj (gPowV.symm.trans hg2)
  obtain rfl := Option.some.inj (tPowV.symm.trans ht2)
  rw [dPowV] at hd2
  refine ⟨?_⟩
  unfold Lib.TabIs
  rw [hv2, ← Lib.cells_of_tab Tryz.underlying305 Tryz.underlying224 cellsU64V cellsPowV hd2]
theorem shape_max {W : World} (h : W.ShapedOpen Tryz.prog) : ∃ m, W.cell? ⟨3, 0, none⟩ = some (.int .i64 m) :=
  cell_of_shapedOpen_int h (t := 3) (zero := #[.int .i64 0]) (of_decide_eq_true (by kernel_rfl)) (by kernel_rfl) rfl (by kernel_rfl) (by kernel_rfl) Tryz.underlying3
theorem globV_of_laid {W : World} (h : laidMetH Tryz.prog laidV W) (hs : W.ShapedOpen Tryz.prog) : GlobV W := by
  have h' : laidMet Tryz.prog laidV2 W ∧ handlesMet Tryz.prog [("errors.errorType", Rows.laid_errors_errorType)] W := h
  have h3 := laidMet.tail (laidMet.tail h'.1)
  have h5 := laidMet.tail (laidMet.tail h3)
  exact ⟨⟨cell_of_handle h'.2 (List.mem_singleton.2 rfl)⟩, globT_of_head h3, shape_max hs, cell_of_sentinel (laidMet.tail h5) gSynV tSynV, cell_of_sentinel h5 gRngV tRngV⟩
/-- The wrap of a row that lists variables, the world's shape kept. -/
theorem returns_shaped {H : Type} {enc : TypeId × Value → H} {a : Assume} {C : Checked} {os : Os} {f : FuncId} {fn : Func} {s : ChangeSpec} {conds : List PathCond} {apart fresh handsOn again : Bool} {X : World → Array Value → Prop}
    (hX : ∀ (w w' : World) (args : Array Value), w.heap = w'.heap → X w args → X w' args)
    (own : ownKnob C.prog.godebug = none) (started : os.Started) (noInit : C.prog.inits.idxOf? f = none) (hfn : C.prog.funcs[f]? = some fn)
    (witness : ∃ (w : World) (tape : Tape) (i : Input), w.os = os ∧ (w.forCall tape i).Shaped C.prog ∧ i.vars = [] ∧ Input.okWide C.prog (w.forCall tape i) .any w.heap.size f i ∧
      ((s.pre enc C.prog fn conds apart (w.forCall tape i).memory i.args ∧ X (w.forCall tape i).memory i.args) ∧ sizedMet enc C.prog fn (OpenSpec.ofChange s) apart (w.forCall tape i).memory i.args) ∧ a.holds C.prog (lone (Frame.enter C.prog f i.args .normal) [] (w.forCall tape i)))
    (contract : ∀ (W : World) (base : Nat) (args : Array Value) (ds gs : List (DataW H)) (before : List MemPlace),
      (∀ (j : Nat) t v, fn.params[j]? = some t → args[j]? = some v → Value.okWide C.prog W .any base t v) →
      DataW.Whole enc C.prog fn.params.toList s.vars apart W args.toList ds gs before →
      (DataW.weightsEach C.prog (fn.params.toList ++ s.plain.varTypes C.prog) (ds ++ gs)).all (· ≤ reachBytes) = true → X W args → W.ShapedOpen C.prog →
      Calls C.prog f args W fun e W' => ∃ v, e = .returned v ∧ s.post enc C.prog fn apart fresh handsOn again W args v W') :
    ReturnsInHanded a C os f .any (fun w args => (s.pre enc C.prog fn conds apart w args ∧ X w args) ∧ sizedMet enc C.prog fn (OpenSpec.ofChange s) apart w args) (s.post enc C.prog fn apart fresh handsOn again) := by
  refine returnsInHanded_of_calls own started noInit witness ?_
  intro w tape i _ hsh _ hok hpre _
  obtain ⟨_, _, _, fn', hfn', _, _, _, _, hval⟩ := hok
  have e : fn' = fn := Option.some.inj (hfn'.symm.trans hfn)
  subst e
  obtain ⟨⟨⟨ds, gs, before, hw, _⟩, hx⟩, hz⟩ := hpre
  have hw' := DataW.Whole.of_heap (w' := w.forCall tape i) (by rfl) hw
  refine (contract (w.forCall tape i) w.heap.size i.args ds gs before hval hw' (hz.weights hw) (hX _ _ _ (by rfl) hx) hsh).mono fun e W' ⟨v, he, hp⟩ => ?_
  subst he
  exact ChangeSpec.post_blind hp
end Go.Proofs.YtmncoldaemcnlaaGreatDoor
namespace Go.Proofs.YtmncoldaemcnlaaGreatDoor
open Go.ChangeShapes Go.WideShapes Go.ChangeAt Go.WideElems Go.RowKit Go.Deep

def laidC : List (String × DataW Unit) := [("math/bits.deBruijn32tab", Rows.laid_math_bits_deBruijn32tab), ("math/bits.deBruijn64tab", Rows.laid_math_bits_deBruijn64tab), ("internal/strconv.uint64pow10", Rows.laid_internal_strconv_uint64pow10), ("unicode/utf8.acceptRanges", Rows.laid_unicode_utf8_acceptRanges), ("errors.errorType", Rows.laid_errors_errorType), ("strconv.ErrRange", Rows.laid_strconv_ErrRange), ("strconv.ErrSyntax", Rows.laid_strconv_ErrSyntax), ("solspace/solspaceref.kinds", Rows.laid_solspace_solspaceref_kinds), ("solspace/solspaceref.Fine", Rows.laid_solspace_solspaceref_Fine), ("unicode/utf8.first", Rows.laid_unicode_utf8_first)]
def laidC2 : List (String × DataW Unit) := [("math/bits.deBruijn32tab", Rows.laid_math_bits_deBruijn32tab), ("math/bits.deBruijn64tab", Rows.laid_math_bits_deBruijn64tab), ("internal/strconv.uint64pow10", Rows.laid_internal_strconv_uint64pow10), ("unicode/utf8.acceptRanges", Rows.laid_unicode_utf8_acceptRanges), ("strconv.ErrRange", Rows.laid_strconv_ErrRange), ("strconv.ErrSyntax", Rows.laid_strconv_ErrSyntax), ("solspace/solspaceref.kinds", Rows.laid_solspace_solspaceref_kinds), ("solspace/solspaceref.Fine", Rows.laid_solspace_solspaceref_Fine), ("unicode/utf8.first", Rows.laid_unicode_utf8_first)]
noncomputable def startC (os : Os) : World := (World.doorLaid Tryz.prog 400 os).layVars Tryz.prog laidC2
theorem startC_two (os : Os) (args : Array Value) : laidMet Tryz.prog laidC2 ((startC os).forCall (fun _ _ => 0) ⟨#[], args, []⟩).memory := by
  have e1 : (laidC2.filter fun x => (laidC2.map (·.1)).contains x.1) = laidC2 := by kernel_rfl
  have e2 : (laidC2.filter fun x => !(laidC2.map (·.1)).contains x.1) = [] := by kernel_rfl
  have h : laidMet Tryz.prog laidC2 (startC os) := laidMet_layVars (w0 := World.doorLaid Tryz.prog 400 os) (laidC2.map (·.1)) [] (by rw [e1]; rfl) (by rw [e1]; kernel_rfl) (by rw [e1]; kernel_rfl) (by rw [e2]; exact LaidIn.none)
  exact h.of_heap (by simp [World.memory, World.forCall, Input.heap])
theorem startC_met (os : Os) (args : Array Value) : laidMetH Tryz.prog laidC ((startC os).forCall (fun _ _ => 0) ⟨#[], args, []⟩).memory :=
  laidMetH_of_parts (startC_two os args) (by kernel_rfl)
theorem gFineC : Tryz.prog.globalNamed "solspace/solspaceref.Fine" = some 1 := by kernel_rfl
theorem tFineC : (Tryz.prog.globals[1]?).map (·.type) = some 30 := by kernel_rfl
theorem cellsFaultC : Tryz.prog.cellsOf 30 = 2 := by kernel_rfl
theorem cellsErrnoC : Tryz.prog.cellsOf 28 = 1 := by kernel_rfl
theorem cellsIntC : Tryz.prog.cellsOf 3 = 1 := by kernel_rfl
set_option maxRecDepth 100000 in
theorem fineC_of_head {r : List (String × DataW Unit)} {W : World} (h : laidMet Tryz.prog (("solspace/solspaceref.Fine", Rows.laid_solspace_solspaceref_Fine) :: r) W) : FineP W := by
  obtain ⟨ps, ⟨g0, t0, cs0, f0, p0, q0, hg0, ht0, hv0, hd0, _, _⟩, _, _⟩ := h
  obtain rfl := Option.some.inj (gFineC.symm.trans hg0)
  obtain rfl := Option.some.inj (tFineC.symm.trans ht0)
  obtain ⟨y0, y1, n, hx, hl, h0, h1⟩ := trod_struct2 Tryz.underlying30 hd0
  rw [cellsFaultC] at hl
  obtain ⟨l⟩ := cs0
  match l, hl with
  | [c0, c1], _ =>
    rw [cellsErrnoC] at h0
    rw [cellsIntC] at h1
    obtain ⟨a, ea, rfl, _⟩ := DataW.trod_int Tryz.underlying28 h0
    obtain ⟨b, eb, rfl, _⟩ := DataW.trod_int Tryz.underlying3 h1
    simp at ea eb
    subst ea eb
    simp only [Rows.laid_solspace_solspaceref_Fine, Prod.mk.injEq, DataW.agg.injEq, List.cons.injEq, DataW.lit.injEq, Lit.int.injEq] at hx
    obtain ⟨⟨⟨_, rfl⟩, ⟨_, rfl⟩, _⟩, _⟩ := hx
    have c0 := World.var?_cell hg0 hv0 0
    have c1 := World.var?_cell hg0 hv0 1
    exact ⟨by simpa using c0, by simpa using c1⟩
theorem gKindsC : Tryz.prog.globalNamed "solspace/solspaceref.kinds" = some 0 := by kernel_rfl
theorem tKindsC : (Tryz.prog.globals[0]?).map (·.type) = some 108 := by kernel_rfl
theorem cellsStrC : Tryz.prog.cellsOf 9 = 1 := by kernel_rfl
set_option maxRecDepth 100000 in
theorem kinds_of_head {r : List (String × DataW Unit)} {W : World} (h : laidMet Tryz.prog (("solspace/solspaceref.kinds", Rows.laid_solspace_solspaceref_kinds) :: r) W) : KindsP W := by
  obtain ⟨ps, ⟨g0, t0, cs0, f0, p0, q0, hg0, ht0, hv0, hd0, _, _⟩, _, _⟩ := h
  obtain rfl := Option.some.inj (gKindsC.symm.trans hg0)
  obtain rfl := Option.some.inj (tKindsC.symm.trans ht0)
  obtain ⟨l0⟩ := cs0
  rcases DataW.trod_slice Tryz.underlying108 hd0 with ⟨_, hx⟩ | ⟨a, len, cap, elems, rest, n, _, hcs, hx, _, hlc, _, hel, hcell, _, _⟩
  · have h9 := congrArg Prod.fst hx
    simp only [Rows.laid_solspace_solspaceref_kinds] at h9
    cases h9
  · have h9 : DataW.slice [DataW.lit (.string []), .lit (.string [112, 97, 99, 107, 97, 103, 101]), .lit (.string [110, 101, 101, 100, 115]), .lit (.string [99, 108, 97, 115, 104, 101, 115]), .lit (.string [114, 111, 111, 116])] [] = DataW.slice (elems.map (·.1)) (rest.map (·.1)) := congrArg Prod.fst hx
    injection h9 with h8 _
    have h5 : len = 5 := by rw [← hel]; have := congrArg List.length h8; simp at this; omega
    subst h5
    have c0 := World.var?_cell hg0 hv0 0
    obtain rfl : l0 = [.slice (some a) 5 cap] := by simpa using hcs
    have each : ∀ k, k < 5 → W.cell? (a.add k) = some (.string (kindB.getD k ByteArray.empty)) := by
      intro k hk
      have hk' : k < elems.length := by omega
      have h1 := hcell k hk
      rw [cellsStrC, Nat.mul_one, List.getElem?_eq_getElem hk'] at h1
      cases hc : W.cells? 0 (a.add k) 1 with
      | none => rw [hc] at h1; cases h1
      | some cs =>
        rw [hc] at h1
        obtain ⟨s, rfl, hd, _⟩ := DataW.trod_string Tryz.underlying9 h1
        have h2 := cell_of_cells?_one hc
        rw [h2]
        have h3 : (elems[k]).1 = .lit (.string s.data.toList) := by rw [hd]
        have h4 : (elems.map (·.1))[k]? = some (.lit (.string s.data.toList)) := by rw [List.getElem?_map, List.getElem?_eq_getElem hk', Option.map_some, h3]
        rw [← h8] at h4
        rcases (show k = 0 ∨ k = 1 ∨ k = 2 ∨ k = 3 ∨ k = 4 by omega) with rfl | rfl | rfl | rfl | rfl <;>
        · simp only [List.getElem?_cons_zero, List.getElem?_cons_succ, Option.some.injEq, DataW.lit.injEq, Lit.string.injEq] at h4
          exact congrArg (fun z => some (Value.string z)) (bytes_back _ s h4).symm
    obtain ⟨b, off, spot⟩ := a
    have hsp : spot = none := by
      have h1 := each 0 (by omega)
      unfold Addr.add at h1
      rw [if_pos rfl] at h1
      cases spot with
      | none => rfl
      | some sp =>
        unfold World.cell? at h1
        split at h1 <;> simp at h1
    subst hsp
    refine ⟨b, off, cap, by simpa using c0, fun k hk => ?_⟩
    have := each k hk
    rwa [Addr.add_lit] at this
theorem globV_of_laidC {W : World} (h : laidMetH Tryz.prog laidC W) (hs : W.ShapedOpen Tryz.prog) : GlobV W ∧ FineP W ∧ KindsP W := by
  have h' : laidMet Tryz.prog laidC2 W ∧ handlesMet Tryz.prog [("errors.errorType", Rows.laid_errors_errorType)] W := h
  have h3 := laidMet.tail (laidMet.tail h'.1)
  have h5 := laidMet.tail (laidMet.tail h3)
  exact ⟨⟨⟨cell_of_handle h'.2 (List.mem_singleton.2 rfl)⟩, globT_of_head h3, shape_max hs, cell_of_sentinel (laidMet.tail h5) gSynV tSynV, cell_of_sentinel h5 gRngV tRngV⟩, fineC_of_head (laidMet.tail (laidMet.tail (laidMet.tail h5))), kinds_of_head (laidMet.tail (laidMet.tail h5))⟩
end Go.Proofs.YtmncoldaemcnlaaGreatDoor
