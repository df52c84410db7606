/-
  strings.SplitSeq, ranged over.
-/
import Derived.RangeFuncNested
import Derived.RangeFuncBound
import Derived.RangeFuncCalls
import Derived.RangeFuncLeaves
import Derived.Shelf.Abstract
import Derived.Shelf.RegionOpen
import Derived.WalkKit
import Derived.OwnWalkIn
import Derived.TacticsInMore
import Derived.LoopNIn
import Derived.LoopIn
import Derived.Lib.SplitLaws
import Derived.Test.YtmncoldaemcnlaaGreatDoorSeqLay
import Derived.Test.YtmncoldaemcnlaaGreatDoorRgSplit
namespace Go.Proofs.YtmncoldaemcnlaaGreatDoor
open Go.RowKit Go.Shelf
attribute [local go_sem] Oper.semAt_some
set_option maxRecDepth 100000

/-- The pieces of a text. -/
def pieL (sep s : ByteArray) : List ByteArray := Lib.splitB sep 0 (Lib.countB s sep) s
theorem pieL_miss {sep s : ByteArray} (h : Lib.indexB s sep = -1) : pieL sep s = [s] := Lib.splitB_miss sep 0 _ s h
theorem pieL_hit {sep s : ByteArray} {i : Nat} (h1 : 1 ≤ sep.size) (h : Lib.indexB s sep = i) : pieL sep s = s.extract 0 i :: pieL sep (s.extract (i + sep.size) s.size) := by
  have hc := Lib.countB_hit s sep i h1 h
  unfold pieL
  rw [show Lib.countB s sep = Lib.countB (s.extract (i + sep.size) s.size) sep + 1 by omega, Lib.splitB_hit sep 0 _ s i h]
  rfl
/-- What is left in the iterator's box. -/
def leftS (b : Nat) (w : World) : Nat := match w.cell? ⟨b, 0, none⟩ with
  | some (.string r) => r.size
  | _ => 0
theorem leftS_is {b : Nat} {w : World} {r : ByteArray} (h : Blk w b 9 #[.string r]) : leftS b w = r.size := by
  unfold leftS
  rw [show w.cell? ⟨b, 0, none⟩ = some (.string r) from h.cell 0]
/-- The iterator, with any loop's body. -/
structure SeqJ (J : List ByteArray → World → Prop) (bs bsep bsv : Nat) (sep : ByteArray) (pre : List ByteArray) (rest : ByteArray) (w : World) : Prop where
  j : J pre w
  b : Blk w bs 9 #[.string rest]
  sp : Blk w bsep 9 #[.string sep]
  sv : Blk w bsv 3 #[.int .i64 0]
set_option maxHeartbeats 2000000 in
theorem splitSeq1_any (n l bs bsep bsv : Nat) (s sep : ByteArray) (J Jx : List ByteArray → World → Prop) (W : World) (hn : 1 ≤ n) (h1 : 1 ≤ sep.size) (hs : s.size ≤ 1000000) (ne1 : bsep ≠ bs) (ne2 : bsv ≠ bs)
    (hJG : ∀ pre A, J pre A → GlobV A) (hJb : ∀ pre A B, J pre A → Fr (fun k => k = bs) A B → J pre B)
    (hY : ∀ pre x rest r A, SeqJ J bs bsep bsv sep pre rest A → pre ++ x :: r = pieL sep s → YieldAt Fence.wide (n - 1) Tryz.prog l #[.string x] A fun e B =>
      (e = .returned (.bool true) ∧ SeqJ J bs bsep bsv sep (pre ++ [x]) rest B) ∨ (e = .returned (.bool false) ∧ Jx (pre ++ [x]) B))
    (h0 : SeqJ J bs bsep bsv sep [] s W) :
    CallsIn Fence.wide n Tryz.prog 155 #[.func (.yield l) #[] #[], .pointer (some ⟨bsep, 0, none⟩), .pointer (some ⟨bs, 0, none⟩), .pointer (some ⟨bsv, 0, none⟩)] W fun e W' => (∃ v, e = .returned v) ∧
      (J (pieL sep s) W' ∨ ∃ pre, Jx pre W') := by
  have HJG := Lib.hid hJG
  have HJB := Lib.hid hJb
  have HY := Lib.hid hY
  have H0 := Lib.hid h0
  have hse : (sep.size : Int) = 0 → False := by omega
  have hsb : ((sep.size : Int) == 0) = false := beq_eq_false_iff_ne.2 (by omega)
  have z1 := h0.sp.cell 0
  clear hJG hJb hY h0 hse
  refine callsIn_of_wp Tryz.func155 rfl trivial ?_ rfl
  simp only [Tryz.ntmps155, List.size_toArray, List.length_cons, List.length_nil, Nat.reduceAdd, Nat.reduceSub, Array.replicate_succ, Array.replicate_zero, List.push_toArray, List.append_toArray, List.nil_append, List.cons_append]
  gi_wp2
  clear z1
  gi_loopw [7] (fun _ wr => ∃ (pre : List ByteArray) (rest : ByteArray), Hid (pre ++ pieL sep rest = pieL sep s) ∧ rest.size ≤ 1000000 ∧ Hid (SeqJ J bs bsep bsv sep pre rest wr)) (fun _ wr => leftS bs wr)
  case atStart => exact ⟨[], s, Lib.hid rfl, hs, H0⟩
  case round =>
    clear H0
    obtain ⟨pre, rest, HP, hrs, HS⟩ := hrel
    have y0 := HS.out.b.cell 0
    have y1 := HS.out.sp.cell 0
    have y2 := HS.out.sv.cell 0
    have hGV := HJG.out _ _ HS.out.j
    obtain ⟨m, hm⟩ := hGV.mx
    have HIX := hide (show Calls Tryz.prog 154 #[.string rest, .string sep] wr (fun e w' => e = .returned (.int .i64 (Lib.index rest.data.toList sep.data.toList)) ∧ wr = w') from (Tryz.strings_Index rest sep m wr (by omega) hm).mono fun e w' h => ⟨h.1, h.2.symm⟩)
    have hL := leftS_is HS.out.b
    have HL := Lib.hid hL
    clear hL hm hGV
    rcases Lib.indexB_cases rest sep with hix | ⟨i, hix, hle⟩
    · have hp1 : pre ++ rest :: [] = pieL sep s := by rw [← HP.out, pieL_miss hix]
      have hpe : pre ++ [rest] = pieL sep s := hp1
      have HPE := Lib.hid hpe
      rw [show Lib.index rest.data.toList sep.data.toList = -1 from hix] at HIX
      obtain ⟨fn, tmps, assign, body, hy, hR⟩ := HY.out pre rest rest [] wr HS.out hp1
      have HR := hide hR
      clear hR hp1 hpe hix
      gi_wp2_with (refine ⟨trivial, ?_⟩; gi_at_call 154; refine (callsIn_wide.2 HIX.out).mono ?_; rintro e w9 ⟨rfl, rfl⟩)
      refine HR.out.mono ?_
      rintro e wb (⟨rfl, hj⟩ | ⟨rfl, hx⟩)
      · have HJ := hide hj
        clear hj
        gi_wp2
        go_end0
        exact ⟨⟨_, rfl⟩, .inl (by rw [← HPE.out]; exact HJ.out.j)⟩
      · have HX := hide hx
        clear hx
        gi_wp2
        go_end0
        exact ⟨⟨_, rfl⟩, .inr ⟨_, HX.out⟩⟩
    · have hp1 : pre ++ rest.extract 0 i :: pieL sep (rest.extract (i + sep.size) rest.size) = pieL sep s := by rw [← HP.out, pieL_hit h1 hix]
      have HPE := Lib.hid (show (pre ++ [rest.extract 0 i]) ++ pieL sep (rest.extract (i + sep.size) rest.size) = pieL sep s by rw [← hp1, List.append_assoc]; rfl)
      rw [show Lib.index rest.data.toList sep.data.toList = (i : Int) from hix] at HIX
      obtain ⟨fn, tmps, assign, body, hy, hR⟩ := HY.out pre (rest.extract 0 i) rest _ wr HS.out hp1
      have HR := hide hR
      have hsz2 : (rest.extract (i + sep.size) rest.size).size < rest.size := by rw [ByteArray.size_extract]; omega
      have HSZ := Lib.hid hsz2
      have hiz : ¬ (i : Int) < 0 := by omega
      have hirz : (i : Int) ≤ (rest.size : Int) := by omega
      have his : (i : Int) + (sep.size : Int) ≤ (rest.size : Int) := by omega
      clear hR hp1 hix hsz2
      gi_wp2_with (refine ⟨trivial, ?_⟩; gi_at_call 154; refine (callsIn_wide.2 HIX.out).mono ?_; rintro e w9 ⟨rfl, rfl⟩)
      refine HR.out.mono ?_
      rintro e wb (⟨rfl, hj⟩ | ⟨rfl, hx⟩)
      · have HJ := hide hj
        have y0 := hj.b.cell 0
        have y1 := hj.sp.cell 0
        have f0 := hj.b.frozen 0
        have HJ2 := hide (show SeqJ J bs bsep bsv sep (pre ++ [rest.extract 0 i]) (rest.extract (i + sep.size) rest.size) (wb.setCell ⟨bs, 0, none⟩ (.string (rest.extract (i + sep.size) rest.size))) from
          ⟨HJB.out _ _ _ hj.j (Fr.set_ (S := fun k => k = bs) (Fr.refl _ _) (p := ⟨bs, 0, none⟩) rfl _), hj.b.set_ 0 _, hj.sp.far ne1 _, hj.sv.far ne2 _⟩)
        clear hj
        gi_wp2
        go_roundw
        case rel => exact ⟨_, _, HPE, by have := HSZ.out; omega, HJ2⟩
        case measure => rw [HL.out, leftS_is HJ2.out.b]; exact HSZ.out
      · have HX := hide hx
        clear hx
        gi_wp2
        refine bodyPost_ret (results_none rfl _ _ _) rfl ?_
        exact ⟨⟨_, rfl⟩, .inr ⟨_, HX.out⟩⟩
/-- How a loop's body is left. -/
def seqPost (X : Nat → Prop) (I Ix : List ByteArray → World → Prop) (pre : List ByteArray) (W : World) : Exit → Act → World → Prop
  | .normal, _, W' => Fr X W W' ∧ I pre W'
  | .ret, _, W' => Fr X W W' ∧ Ix pre W'
  | _, _, _ => False
theorem fr_putObj {S : Nat → Prop} (W : World) {l : Nat} (o : Obj) (hl : S l) : Fr S W (W.putObj l o) := ⟨rfl, rfl, rfl, by rw [World.putObj_size]; exact Nat.le_refl _, fun k _ hk => World.putObj_heap_other (fun e => hk (e ▸ hl))⟩
/-- for .. range strings.SplitSeq(s, sep). -/
theorem wpIn_splitSeq {n : Nat} {g : Operand} {ps : Array Tmp} {assign body : Code} {Q : Exit → Act → World → Prop} {a : Act} {w : World} (bsep bs bsv : Nat) (s sep : ByteArray)
    (hg : a.eval g = .func (.func 155) #[] #[.pointer (some ⟨bsep, 0, none⟩), .pointer (some ⟨bs, 0, none⟩), .pointer (some ⟨bsv, 0, none⟩)])
    (h1 : 1 ≤ sep.size) (hs : s.size ≤ 1000000) (hn : 2 ≤ n) (k1 : Blk w bsep 9 #[.string sep]) (k2 : Blk w bs 9 #[.string s]) (k3 : Blk w bsv 3 #[.int .i64 0]) (ne1 : bsep ≠ bs) (ne2 : bsv ≠ bs) (hps : ps.size = 1)
    (X : Nat → Prop) (hX : ∀ k, X k → k < w.heap.size ∧ k ≠ bs ∧ k ≠ bsep ∧ k ≠ bsv) (I Ix : List ByteArray → World → Prop)
    (hI : ∀ pre A B, I pre A → Fr (fun k => k = bs ∨ k = w.heap.size ∨ k = w.heap.size + 1) A B → I pre B) (hIx : ∀ pre A B, Ix pre A → Fr (fun k => k = bs ∨ k = w.heap.size ∨ k = w.heap.size + 1) A B → Ix pre B)
    (hG : ∀ pre A, I pre A → GlobV A) (h0 : I [] w) (a₁ : ByteArray → Act)
    (hassign : ∀ (l : Nat) (x : ByteArray) (W : World) (K : Act → World → Prop), K (a₁ x) W →
      assign.wpIn (Fence.wide.inRound l) (n - 1 - 1) Tryz.prog (Exit.then K (fun _ _ _ => False)) { tmps := (ps.zip #[.string x]).foldl (fun t (p, v) => t.setIfInBounds p v) a.tmps, defers := [] } W)
    (hbody : ∀ (l : Nat) (pre : List ByteArray) (x : ByteArray) (r : List ByteArray) (W : World), I pre W → pre ++ x :: r = pieL sep s → w.heap.size + 2 ≤ W.heap.size → body.wpIn (Fence.wide.inRound l) (n - 1 - 1) Tryz.prog (seqPost X I Ix (pre ++ [x]) W) (a₁ x) W)
    (hdone : ∀ W, I (pieL sep s) W → W.heap[w.heap.size]? = some (.deferred (some [])) → Q .normal { a with defers := { target := .collected w.heap.size, args := #[] } :: a.defers } W)
    (hstop : ∀ pre W, Ix pre W → W.heap[w.heap.size]? = some (.deferred (some [])) → Code.ret.wpIn Fence.wide n Tryz.prog Q { a with defers := { target := .collected w.heap.size, args := #[] } :: a.defers } W) :
    (Code.rangeFunc g ps assign body).wpIn Fence.wide n Tryz.prog Q a w := by
  refine wpIn_rangeFunc ?_
  intro fn hfn
  rw [show Fence.wide.round = none from rfl]
  obtain ⟨rec, hrec⟩ : ∃ rec : LoopState → Option Code → Loop, rec = fun st pe => { state := st, pending := pe, fn, tmps := a.tmps, params := ps, assign, body, defers := w.heap.size } := ⟨_, rfl⟩
  obtain ⟨W1, hW1⟩ : ∃ W1, (w.alloc (.deferred (some []))).alloc (.loop (rec .ready none)) = W1 := ⟨_, rfl⟩
  have hL1 : W1.heap[w.heap.size + 1]? = some (.loop (rec .ready none)) := by
    rw [← hW1]; have := World.alloc_heap_new (w.alloc (.deferred (some []))) (.loop (rec .ready none)); rwa [World.size_alloc] at this
  have hK1 : W1.heap[w.heap.size]? = some (.deferred (some [])) := by
    rw [← hW1]; exact (Below.heap_alloc _ _ _ (by simp)).trans (World.alloc_heap_new w _)
  have hB1 : Below w.heap.size w W1 := by rw [← hW1]; exact ((Below.refl _ w).alloc (Nat.le_refl _) _).alloc (by simp) _
  have hz1 : w.heap.size + 2 ≤ W1.heap.size := by rw [← hW1]; simp
  have hI1 : I [] W1 := hI _ _ _ h0 (.of_below hB1 (Nat.le_refl _))
  have hlt : bs < w.heap.size := k2.lt
  refine ⟨w.heap.size + 1, [{ target := .collected w.heap.size, args := #[] }], W1, { target := .fn (.func 155) #[.pointer (some ⟨bsep, 0, none⟩), .pointer (some ⟨bs, 0, none⟩), .pointer (some ⟨bsv, 0, none⟩)], args := #[.func (.yield (w.heap.size + 1)) #[] #[]] }, W1, 155,
    #[.func (.yield (w.heap.size + 1)) #[] #[]] ++ #[.pointer (some ⟨bsep, 0, none⟩), .pointer (some ⟨bs, 0, none⟩), .pointer (some ⟨bsv, 0, none⟩)], W1, ?_, ?_, ?_, ?_, fun _ => by omega, ?_⟩
  · rw [← hW1, hrec]; exact run_enterLoop_outer _ _ _ _ _
  · simp only [resolve, hg]
    simp [go_sem]
  · intro f' _; exact trivial
  · simp [invoke, go_sem]
  · refine (splitSeq1_any (n - 1) (w.heap.size + 1) bs bsep bsv s sep
      (fun pre W => I pre W ∧ W.heap[w.heap.size + 1]? = some (.loop (rec .ready none)) ∧ W.heap[w.heap.size]? = some (.deferred (some [])) ∧ w.heap.size + 2 ≤ W.heap.size)
      (fun pre W => Ix pre W ∧ W.heap[w.heap.size + 1]? = some (.loop (rec .done (some .ret))) ∧ W.heap[w.heap.size]? = some (.deferred (some [])))
      W1 (by omega) h1 hs ne1 ne2 (fun pre A h => hG pre A h.1)
      (fun pre A B h hf => ⟨hI _ _ _ h.1 (hf.mono fun k _ e => .inl e), (hf.block _ (by omega) (by omega)).trans h.2.1, (hf.block _ (by omega) (by omega)).trans h.2.2.1, Nat.le_trans h.2.2.2 hf.size⟩)
      ?_ ⟨⟨hI1, hL1, hK1, hz1⟩, k2.below hB1 k2.lt, k1.below hB1 k1.lt, k3.below hB1 k3.lt⟩).mono ?_
    · -- one round
      rintro pre x rest r W ⟨⟨hi, hl, hk, hz⟩, b1, b2, b3⟩ hpx
      have hy := run_yield (P := Tryz.prog) (args := #[.string x]) hl (by rw [hrec]; exact hps.symm)
      rw [hrec] at hy
      refine ⟨fn, _, assign, body, hy, roundIn_of_wpIn hfn (hassign _ x W _ ⟨_, run_beginRound hl (by rw [hrec]), ?_⟩)⟩
      have hl2 : (W.putObj (w.heap.size + 1) (.loop { rec .ready none with state := .busy })).heap[w.heap.size + 1]? = some (.loop { rec .ready none with state := .busy }) := World.putObj_heap_same (by omega)
      have hk2 : (W.putObj (w.heap.size + 1) (.loop { rec .ready none with state := .busy })).heap[w.heap.size]? = some (.deferred (some [])) := (World.putObj_heap_other (by omega)).trans hk
      have hf2 : Fr (fun k => k = bs ∨ k = w.heap.size ∨ k = w.heap.size + 1) W (W.putObj (w.heap.size + 1) (.loop { rec .ready none with state := .busy })) := fr_putObj W _ (.inr (.inr rfl))
      have hfl : Fr (fun k => k = w.heap.size + 1) W (W.putObj (w.heap.size + 1) (.loop { rec .ready none with state := .busy })) := fr_putObj W _ rfl
      have c1 := b1.fr hfl (by show ¬ bs = w.heap.size + 1; omega)
      have c2 := b2.fr hfl (by have := k1.lt; show ¬ bsep = w.heap.size + 1; omega)
      have c3 := b3.fr hfl (by have := k3.lt; show ¬ bsv = w.heap.size + 1; omega)
      refine wpIn_mono (hbody _ pre x r _ (hI _ _ _ hi hf2) hpx (by rw [World.putObj_size]; exact hz)) ?_
      have fin : ∀ (jump : Option Code) (W3 : World), Fr X (W.putObj (w.heap.size + 1) (.loop { rec .ready none with state := .busy })) W3 →
          (Instr.endRound (w.heap.size + 1) jump).run Tryz.prog W3 = .ok (.bool jump.isNone) (W3.putObj (w.heap.size + 1) (.loop (rec (if jump.isNone then .ready else .done) jump))) ∧
          (W3.putObj (w.heap.size + 1) (.loop (rec (if jump.isNone then .ready else .done) jump))).heap[w.heap.size + 1]? = some (.loop (rec (if jump.isNone then .ready else .done) jump)) ∧
          (W3.putObj (w.heap.size + 1) (.loop (rec (if jump.isNone then .ready else .done) jump))).heap[w.heap.size]? = some (.deferred (some [])) ∧
          w.heap.size + 2 ≤ (W3.putObj (w.heap.size + 1) (.loop (rec (if jump.isNone then .ready else .done) jump))).heap.size ∧
          Fr (fun k => k = bs ∨ k = w.heap.size ∨ k = w.heap.size + 1) W3 (W3.putObj (w.heap.size + 1) (.loop (rec (if jump.isNone then .ready else .done) jump))) := fun jump W3 hf3 => by
        have hsz3 : w.heap.size + 2 ≤ W3.heap.size := by have := hf3.size; rw [World.putObj_size] at this; omega
        have hl3 := (hf3.block (w.heap.size + 1) (by rw [World.putObj_size]; omega) (fun h => by have := (hX _ h).1; omega)).trans hl2
        have hk3 := (hf3.block w.heap.size (by rw [World.putObj_size]; omega) (fun h => by have := (hX _ h).1; omega)).trans hk2
        have := run_endRound (P := Tryz.prog) jump hl3
        rw [hrec] at this ⊢
        exact ⟨this, World.putObj_heap_same (by omega), (World.putObj_heap_other (by omega)).trans hk3, by rw [World.putObj_size]; exact hsz3, fr_putObj W3 _ (.inr (.inr rfl))⟩
      rintro e a3 W3 hp
      cases e with
      | normal =>
        obtain ⟨hf3, hi3⟩ := hp
        obtain ⟨hr, hl4, hk4, hz4, hf4⟩ := fin none W3 hf3
        have hfl4 : Fr (fun k => k = w.heap.size + 1) W3 (W3.putObj (w.heap.size + 1) (.loop (rec .ready none))) := fr_putObj W3 _ rfl
        exact ⟨_, _, hr, .inl ⟨rfl, ⟨hI _ _ _ hi3 hf4, hl4, hk4, hz4⟩,
          (c1.fr hf3 (fun h => (hX _ h).2.1 rfl)).fr hfl4 (by show ¬ bs = w.heap.size + 1; omega), (c2.fr hf3 (fun h => (hX _ h).2.2.1 rfl)).fr hfl4 (by have := k1.lt; show ¬ bsep = w.heap.size + 1; omega),
          (c3.fr hf3 (fun h => (hX _ h).2.2.2 rfl)).fr hfl4 (by have := k3.lt; show ¬ bsv = w.heap.size + 1; omega)⟩⟩
      | ret =>
        obtain ⟨hf3, hi3⟩ := hp
        obtain ⟨hr, hl4, hk4, hz4, hf4⟩ := fin (some .ret) W3 hf3
        exact ⟨_, _, hr, .inr ⟨rfl, hIx _ _ _ hi3 hf4, hl4, hk4⟩⟩
      | exit id => exact hp.elim
      | goto t => exact hp.elim
      | panic ch => exact hp.elim
      | outgrown => exact hp.elim
    · rintro e W2 ⟨⟨v, rfl⟩, (⟨hi, hl, hk, hz⟩ | ⟨pre, hi, hl, hk⟩)⟩
      · exact ⟨none, _, by have := run_endLoop (P := Tryz.prog) hl (by rw [hrec]; simp); rw [hrec] at this; exact this, hdone _ (hI _ _ _ hi (fr_putObj W2 _ (.inr (.inr rfl)))) ((World.putObj_heap_other (by omega)).trans hk)⟩
      · exact ⟨some .ret, _, by have := run_endLoop (P := Tryz.prog) hl (by rw [hrec]; simp); rw [hrec] at this; exact this, hstop _ _ (hIx _ _ _ hi (fr_putObj W2 _ (.inr (.inr rfl)))) ((World.putObj_heap_other (by omega)).trans hk)⟩
end Go.Proofs.YtmncoldaemcnlaaGreatDoor
