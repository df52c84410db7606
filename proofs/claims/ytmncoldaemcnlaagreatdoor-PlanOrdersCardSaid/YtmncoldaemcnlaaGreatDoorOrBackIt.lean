/-
  A part of the proof: BackIt. Conditions: none.
-/
import Derived.Test.YtmncoldaemcnlaaGreatDoorOrSpParse
import Derived.Test.YtmncoldaemcnlaaGreatDoorOrOwnIs
namespace Go.Proofs.YtmncoldaemcnlaaGreatDoor
open Go.RowKit Go.Shelf
attribute [local go_sem] Oper.semAt_some
set_option maxRecDepth 100000
set_option maxHeartbeats 4000000 in
theorem back1_any (n l b : Nat) (v : Value) (zs : List Int) (J : Nat → World → Prop) (W : World) (hn : 1 ≤ n) (hl : zs.length ≤ 1000000)
  (hJ : ∀ i A, J i A → Blk A b 24 #[v] ∧ OwnI A 0 v zs)
  (hY : ∀ (i : Nat) (A : World) (hi : i < zs.length), J (i + 1) A → YieldAt Fence.wide (n - 1) Tryz.prog l #[.int .i64 (i : Int), .int .i64 zs[i]] A fun e B => e = .returned (.bool true) ∧ J i B)
  (h0 : J zs.length W) :
  CallsIn Fence.wide n Tryz.prog 117 #[.func (.yield l) #[] #[], .pointer (some ⟨b, 0, none⟩)] W fun e W' => (∃ v, e = .returned v) ∧ J 0 W' := by
 have HJ := Lib.hid hJ
 have HY := Lib.hid hY
 have H0 := Lib.hid h0
 obtain ⟨hb0, ho0⟩ := hJ _ _ h0
 obtain ⟨A0, c0, rfl⟩ := ho0.len
 have z1 := hb0.cell 0
 clear hJ hY h0 hb0 ho0
 refine callsIn_of_wp Tryz.func117 rfl trivial ?_ rfl
 simp only [Tryz.ntmps117, List.size_toArray, List.length_cons, List.length_nil, Nat.reduceAdd, Nat.reduceSub, Array.replicate_succ, Array.replicate_zero, List.push_toArray, List.append_toArray, List.nil_append, List.cons_append]
 gi_wp2
 clear z1
 gi_loopw [3] (fun iv wr => ∃ i : Nat, i ≤ zs.length ∧ iv = .int .i64 ((i : Int) - 1) ∧ Hid (J i wr)) (fun iv _ => (intOf iv + 1).toNat)
 case atStart => exact ⟨zs.length, Nat.le_refl _, rfl, H0⟩
 case round =>
  clear H0
  obtain ⟨i, hi, hiv, HS⟩ := hrel
  cases i with
  | zero =>
   have hiv : u3 = .int .i64 (-1) := hiv
   subst hiv
   gi_wp2
   go_end0
   exact ⟨⟨_, rfl⟩, HS.out⟩
  | succ m =>
   rw [show (((m + 1 : Nat) : Int) - 1) = (m : Int) by omega] at hiv
   subst hiv
   have hm : m < zs.length := by omega
   have hmz : (m : Int) < (zs.length : Int) := by omega
   have hm0 : (m : Int) ≥ 0 := by omega
   obtain ⟨hb, ho⟩ := HJ.out _ _ HS.out
   obtain ⟨g, cap, cur, e9, _, hk9, hle, hc9⟩ := ho.form (by omega)
   injection e9 with e1 e2 e3
   subst e1
   have z1 := hb.cell 0
   have y0 := (hk9.cell m).trans (hc9 m hm)
   rw [List.getD_eq_getElem?_getD, List.getElem?_eq_getElem hm, Option.getD_some] at y0
   obtain ⟨fn, tmps, assign, body, hy, hR⟩ := HY.out m wr hm HS.out
   have HR := hide hR
   clear hR hb ho hk9 hc9 e2 e3
   gi_wp2_with fail
   refine HR.out.mono ?_
   rintro e wb ⟨rfl, hj⟩
   have HJ2 := hide hj
   clear hj
   gi_wp2
   go_roundw
   case rel => exact ⟨m, by omega, rfl, HJ2⟩
   case measure => simp [intOf]
def backPost (X : Nat → Prop) (I : World → Prop) (W : World) : Exit → Act → World → Prop
 | .normal, _, W' => Fr X W W' ∧ I W'
 | _, _, _ => False
theorem wpIn_backward {n : Nat} {g : Operand} {ps : Array Tmp} {assign body : Code} {Q : Exit → Act → World → Prop} {a : Act} {w : World} (b : Nat) (v : Value) (zs : List Int)
  (hg : a.eval g = .func (.func 117) #[] #[.pointer (some ⟨b, 0, none⟩)])
  (hl : zs.length ≤ 1000000) (hn : 2 ≤ n) (hps : ps.size = 2)
  (X : Nat → Prop) (hX : ∀ k, X k → k < w.heap.size ∨ w.heap.size + 2 ≤ k) (I : Nat → World → Prop)
  (hI : ∀ i A B, I i A → Fr (fun k => k = w.heap.size ∨ k = w.heap.size + 1) A B → I i B) (hIo : ∀ i A, I i A → Blk A b 24 #[v] ∧ OwnI A 0 v zs)
  (h0 : I zs.length w) (a₁ : Int → Int → Act)
  (hassign : ∀ (l : Nat) (i x : Int) (W : World) (K : Act → World → Prop), K (a₁ i x) W →
   assign.wpIn (Fence.wide.inRound l) (n - 1 - 1) Tryz.prog (Exit.then K (fun _ _ _ => False)) { tmps := (ps.zip #[.int .i64 i, .int .i64 x]).foldl (fun t (p, v) => t.setIfInBounds p v) a.tmps, defers := [] } W)
  (hbody : ∀ (l i : Nat) (W : World) (hi : i < zs.length), I (i + 1) W → w.heap.size + 2 ≤ W.heap.size → body.wpIn (Fence.wide.inRound l) (n - 1 - 1) Tryz.prog (backPost X (I i) W) (a₁ (i : Int) zs[i]) W)
  (hdone : ∀ W, I 0 W → w.heap.size + 2 ≤ W.heap.size → W.heap[w.heap.size]? = some (.deferred (some [])) → Q .normal { a with defers := { target := .collected w.heap.size, args := #[] } :: a.defers } W) :
  (Code.rangeFunc g ps assign body).wpIn Fence.wide n Tryz.prog Q a w := by
 refine wpIn_rangeFunc ?_
 intro fn hfn
 rw [show Fence.wide.round = none from rfl]
 obtain ⟨rec, hrec⟩ : ∃ rec : LoopState → Option Code → Loop, rec = fun st pe => { state := st, pending := pe, fn, tmps := a.tmps, params := ps, assign, body, defers := w.heap.size } := ⟨_, rfl⟩
 obtain ⟨W1, hW1⟩ : ∃ W1, (w.alloc (.deferred (some []))).alloc (.loop (rec .ready none)) = W1 := ⟨_, rfl⟩
 have hL1 : W1.heap[w.heap.size + 1]? = some (.loop (rec .ready none)) := by
  rw [← hW1]; have := World.alloc_heap_new (w.alloc (.deferred (some []))) (.loop (rec .ready none)); rwa [World.size_alloc] at this
 have hK1 : W1.heap[w.heap.size]? = some (.deferred (some [])) := by
  rw [← hW1]; exact (Below.heap_alloc _ _ _ (by simp)).trans (World.alloc_heap_new w _)
 have hB1 : Below w.heap.size w W1 := by rw [← hW1]; exact ((Below.refl _ w).alloc (Nat.le_refl _) _).alloc (by simp) _
 have hz1 : w.heap.size + 2 ≤ W1.heap.size := by rw [← hW1]; simp
 have hI1 : I zs.length W1 := hI _ _ _ h0 (.of_below hB1 (Nat.le_refl _))
 refine ⟨w.heap.size + 1, [{ target := .collected w.heap.size, args := #[] }], W1, { target := .fn (.func 117) #[.pointer (some ⟨b, 0, none⟩)], args := #[.func (.yield (w.heap.size + 1)) #[] #[]] }, W1, 117,
  #[.func (.yield (w.heap.size + 1)) #[] #[]] ++ #[.pointer (some ⟨b, 0, none⟩)], W1, ?_, ?_, ?_, ?_, fun _ => by omega, ?_⟩
 ·rw [← hW1, hrec]; exact run_enterLoop_outer _ _ _ _ _
 ·simp only [resolve, hg]
  simp [go_sem]
 ·intro f' _; exact trivial
 ·simp [invoke, go_sem]
 ·refine (back1_any (n - 1) (w.heap.size + 1) b v zs
   (fun i W => I i W ∧ W.heap[w.heap.size + 1]? = some (.loop (rec .ready none)) ∧ W.heap[w.heap.size]? = some (.deferred (some [])) ∧ w.heap.size + 2 ≤ W.heap.size)
   W1 (by omega) hl (fun i A h => hIo i A h.1) ?_ ⟨hI1, hL1, hK1, hz1⟩).mono ?_
  ·-- one round
   rintro i W hi2 ⟨hi, hl, hk, hz⟩
   have hy := run_yield (P := Tryz.prog) (args := #[.int .i64 (i : Int), .int .i64 zs[i]]) hl (by rw [hrec]; exact hps.symm)
   rw [hrec] at hy
   refine ⟨fn, _, assign, body, hy, roundIn_of_wpIn hfn (hassign _ _ _ W _ ⟨_, run_beginRound hl (by rw [hrec]), ?_⟩)⟩
   have hl2 : (W.putObj (w.heap.size + 1) (.loop { rec .ready none with state := .busy })).heap[w.heap.size + 1]? = some (.loop { rec .ready none with state := .busy }) := World.putObj_heap_same (by omega)
   have hk2 : (W.putObj (w.heap.size + 1) (.loop { rec .ready none with state := .busy })).heap[w.heap.size]? = some (.deferred (some [])) := (World.putObj_heap_other (by omega)).trans hk
   have hf2 : Fr (fun k => k = w.heap.size ∨ k = w.heap.size + 1) W (W.putObj (w.heap.size + 1) (.loop { rec .ready none with state := .busy })) := fr_putObj W _ (.inr rfl)
   refine wpIn_mono (hbody _ i _ hi2 (hI _ _ _ hi hf2) (by rw [World.putObj_size]; exact hz)) ?_
   rintro e a3 W3 hp
   cases e with
   | normal =>
    obtain ⟨hf3, hi3⟩ := hp
    have hsz3 : w.heap.size + 2 ≤ W3.heap.size := by have := hf3.size; rw [World.putObj_size] at this; omega
    have hl3 := (hf3.block (w.heap.size + 1) (by rw [World.putObj_size]; omega) (fun h => by have := hX _ h; omega)).trans hl2
    have hk3 := (hf3.block w.heap.size (by rw [World.putObj_size]; omega) (fun h => by have := hX _ h; omega)).trans hk2
    have hr := run_endRound (P := Tryz.prog) none hl3
    rw [hrec] at hr
    rw [hrec]
    exact ⟨_, _, hr, rfl, hI _ _ _ hi3 (fr_putObj W3 _ (.inr rfl)), World.putObj_heap_same (by omega), (World.putObj_heap_other (by omega)).trans hk3, by rw [World.putObj_size]; exact hsz3⟩
   | ret => exact hp.elim
   | exit id => exact hp.elim
   | goto t => exact hp.elim
   | panic ch => exact hp.elim
   | outgrown => exact hp.elim
  ·rintro e W2 ⟨⟨v, rfl⟩, hi, hl, hk, hz⟩
   exact ⟨none, _, by have := run_endLoop (P := Tryz.prog) hl (by rw [hrec]; simp); rw [hrec] at this; exact this, hdone _ (hI _ _ _ hi (fr_putObj W2 _ (.inr rfl))) (by rw [World.putObj_size]; exact hz) ((World.putObj_heap_other (by omega)).trans hk)⟩
end Go.Proofs.YtmncoldaemcnlaaGreatDoor
