/-
  A part of the proof: CatText. Conditions: none.
-/
import Derived.Test.YtmncoldaemcnlaaGreatDoorCmRefCtx
import Derived.Test.YtmncoldaemcnlaaGreatDoorCmBldLay
import Derived.Test.YtmncoldaemcnlaaGreatDoorCmRefTxt
import Derived.Test.YtmncoldaemcnlaaGreatDoorCmStPl
namespace Go.Proofs.YtmncoldaemcnlaaGreatDoor
open Go.RowKit
open Classical
set_option maxRecDepth 100000
theorem byteCells_app (a b : ByteArray) : Lib.byteCells (a ++ b).data.toList = Lib.byteCells a.data.toList ++ Lib.strCells b := by
 rw [show (a ++ b).data.toList = a.data.toList ++ b.data.toList by rw [ByteArray.data_append, Array.toList_append]]
 unfold Lib.byteCells
 rw [List.map_append]
 rfl
def BlT (b : Nat) (t : ByteArray) (w : World) : Prop := Lib.IsBuilderF 150 5 b b (Lib.byteCells t.data.toList) w
theorem bldAt_below {b : Nat} {p : Value} {xs : List Value} {w w' : World} (h : Lib.BuilderAtF 150 5 b b p xs w) (hb : Below w.heap.size w w') : Lib.BuilderAtF 150 5 b b p xs w' := by
 obtain ⟨hB, v, hv, hown, hne⟩ := h
 exact ⟨hB, v, (hb.block b (Array.getElem?_eq_some_iff.1 hv).1).trans hv, hown.kept (row := none) ⟨hb.os, hb.tape, hb.output, hb.size, fun k hk _ => hb.block k hk⟩ (Classical.em _), hne⟩
theorem BlT.below {b : Nat} {t : ByteArray} {w w' : World} (h : BlT b t w) (hb : Below w.heap.size w w') : BlT b t w' := h.elim (fun x => .inl (bldAt_below x hb)) (fun x => .inr (bldAt_below x hb))
theorem BlT.blk {b : Nat} {t : ByteArray} {w : World} (h : BlT b t w) : ∃ cs, Blk w b 150 cs := by
 rcases h with ⟨_, v, h1, _⟩ | ⟨_, v, h1, _⟩
 ·exact ⟨_, h1⟩
 ·exact ⟨_, h1⟩
structure CtC (w : World) (v : Value) (qs : List LnQ) (bx : Nat) (x : LnR) (Aq : Option Addr) (nq cq : Nat) (W : World) : Prop where
 bel : Below w.heap.size w W
 ln : LnsP W 0 v qs
 blk : Blk W bx 38 #[.int .i64 x.k, .string x.name, .int .i64 (x.ver 0), .int .i64 (x.ver 1), .int .i64 (x.ver 2), .string x.other, .slice Aq nq cq]
 rv : OwnP W 0 (.slice Aq nq cq) x.rg
section
variable {w W W' : World} {v : Value} {qs : List LnQ} {bx : Nat} {x : LnR} {Aq : Option Addr} {nq cq : Nat} {t s : ByteArray} {l : Array Bool} {k i : Nat}
theorem CtC.below (h : CtC w v qs bx x Aq nq cq W) (hb : Below W.heap.size W W') : CtC w v qs bx x Aq nq cq W' := ⟨h.bel.trans (hb.mono h.bel.size), h.ln.below hb, h.blk.below hb h.blk.lt, h.rv.below hb⟩
theorem CtC.write (h : CtC w v qs bx x Aq nq cq W) (hl : BlT w.heap.size t W) (hb : Below w.heap.size W W') (ho : Lib.OthersKept 5 (some w.heap.size) W W') : CtC w v qs bx x Aq nq cq W' := by
 obtain ⟨cs, hk⟩ := hl.blk
 refine ⟨h.bel.trans hb, h.ln.others ho hk, ?_, ownsRow_others h.rv ho hk (by decide) (by decide)⟩
 refine ho bx _ h.blk (fun e => ?_) (fun c fz e => ?_)
 ·obtain rfl := Option.some.inj e
  exact h.blk.ne_ hk (by decide) rfl
 ·injection e with _ h3 _
  exact absurd h3 (by decide)
structure CtJ (w : World) (v : Value) (qs : List LnQ) (bx : Nat) (x : LnR) (Aq : Option Addr) (nq cq : Nat) (k : Nat) (t s : ByteArray) (l : Array Bool) (W : World) : Prop where
 c : CtC w v qs bx x Aq nq cq W
 b0 : l.getD k false = false → BlT w.heap.size t W
 b1 : l.getD k false = true → BlT w.heap.size (t ++ s) W
theorem CtJ.calm (h : CtJ w v qs bx x Aq nq cq k t s l W) (hi : i ≠ k) (hb : Below W.heap.size W W') : CtJ w v qs bx x Aq nq cq k t s (l.setIfInBounds i true) W' := by
 have e := getG_ne (listed := l) (i := i) (j := k) hi
 exact ⟨h.c.below hb, fun e2 => (h.b0 (e ▸ e2)).below hb, fun e2 => (h.b1 (e ▸ e2)).below hb⟩
theorem CtJ.write (h : CtJ w v qs bx x Aq nq cq k t s l W) (hf : l.getD k false = false) (hk : k < l.size) (hb : Below w.heap.size W W') (ho : Lib.OthersKept 5 (some w.heap.size) W W') (hn : Lib.BuilderAtF 150 5 w.heap.size w.heap.size (.pointer (some ⟨w.heap.size, 0, none⟩)) (Lib.byteCells t.data.toList ++ Lib.strCells s) W') :
  CtJ w v qs bx x Aq nq cq k t s (l.setIfInBounds k true) W' :=
 ⟨h.c.write (h.b0 hf) hb ho, fun e => (by rw [getG_same hk] at e; cases e), fun _ => by unfold BlT; rw [byteCells_app]; exact .inr hn⟩
end
def rV (vals : Array Value) (i : Nat) (_ : World) (v : Value) : Prop := v = vals.getD i .nilIface
theorem arrX (t : Array Value) (n : Nat) (h : t.size = n) : ∃ x : Nat → Value, t = ((List.range n).map x).toArray := by
 refine ⟨fun i => t.getD i undef, Array.ext (by simp [h]) fun i h1 h2 => ?_⟩
 simp [h1]
set_option maxHeartbeats 8000000 in
theorem catText_any (g base : Nat) (qs : List LnQ) (w : World) (hG : GlobV w) (h : CatO w base g qs) (hn : qs.length ≤ 100) (hk : ∀ q ∈ qs, 1 ≤ q.1.k ∧ q.1.k ≤ 4) :
  Calls Tryz.prog 30 #[.pointer (some ⟨g, 0, none⟩)] w (CatTxP (qs.map (·.1)) w) := by
 have hal := (Below.refl w.heap.size w).alloc (Nat.le_refl _) (.cells #[.pointer none, .slice none 0 0] 150)
 have HCL := hide (catLines_any g base qs (w.alloc (.cells #[.pointer none, .slice none 0 0] 150)) (h.below hal) (by omega))
 have HB := hide hal
 have HG := hide hG
 have HKK := Lib.hid hk
 have HBL := hide (show BlT w.heap.size ⟨#[]⟩ (w.alloc (.cells #[.pointer none, .slice none 0 0] 150)) from .inl ⟨Nat.le_refl _, .slice none 0 0, heap_alloc_new w _, World.ownsRowF_nil _ _ _ _, fun e => by cases e⟩)
 have HSZ := Lib.hid (fun i (hi : i ≤ qs.length) (hok : ∀ q ∈ qs, LnOk q.1) => txA_size (ls := qs.map (·.1)) (fun x hx => by obtain ⟨q, hq, rfl⟩ := List.mem_map.1 hx; exact hok q hq) i (by simpa using hi))
 have HNX := Lib.hid (fun i (hi : i < qs.length) => show txA (qs.map (·.1)) (i + 1) = txA (qs.map (·.1)) i ++ lnTx qs[i].1 ++ nlB1 from by rw [txA_next (by simpa using hi), List.getElem_map])
 have HEN := Lib.hid (show catTx (qs.map (·.1)) = txA (qs.map (·.1)) qs.length from by unfold catTx; rw [List.length_map])
 have HL0 := Lib.hid (show txA (qs.map (·.1)) 0 = ⟨#[]⟩ from rfl)
 have hmx : Tryz.prog.follows .mixedOrders = true := by kernel_rfl
 clear hal hG h hk
 unfold CatTxP
 rw [HEN.out]
 clear HEN
 generalize txA (qs.map (·.1)) = tx at HSZ HNX HL0 ⊢
 unfold CatLinesP at HCL
 go_enter Tryz.func30, Tryz.ntmps30
 go_wp2_with fail
 refine HCL.out.mono ?_
 rintro e w1 ⟨v7, rfl, hl, hb1⟩
 have HL := hide (hl.mono (Nat.zero_le _))
 have HB1 := hide (HB.out.trans (hb1.mono HB.out.size))
 have HBL1 := hide (HBL.out.below hb1)
 have HOK := Lib.hid (fun q hq => (hl.2 q hq).2)
 obtain ⟨A, c, rfl, _⟩ := HL.out.1.len
 clear hl hb1 HCL HB HBL
 go_wp2_with fail
 go_loopw [9] (fun iv wr => ∃ i : Nat, i ≤ qs.length ∧ iv = .int .i64 i ∧ Hid (Below w.heap.size w wr) ∧ Hid (LnsP wr 0 (.slice A qs.length c) qs) ∧ Hid (BlT w.heap.size (tx i) wr)) (fun iv _ => qs.length - (intOf iv).toNat)
 case atStart => exact ⟨0, Nat.zero_le _, rfl, HB1, HL, by rw [HL0.out]; exact HBL1⟩
 case round =>
  obtain ⟨i, hi, rfl, HW, HLN, HBT⟩ := hrel
  clear HL0 HB1 HL HBL1
  by_cases hlt : i < qs.length
  ·have hltz : (i : Int) < (qs.length : Int) := by omega
   obtain ⟨gq, hA, hrow⟩ := HLN.out.1.rowAt hlt
   subst hA
   obtain ⟨y0, y1, y2, y3, y4, y5, y6⟩ := row7 rfl rfl hrow hlt
   have hnx := HNX.out i hlt
   have hz0 := HSZ.out i hi HOK.out
   have hkk := HKK.out _ (List.getElem_mem hlt)
   obtain ⟨hrv, hok⟩ := HLN.out.2 _ (List.getElem_mem hlt)
   clear hrow
   generalize qs[i] = q at y0 y1 y2 y3 y4 y5 y6 hnx hkk hrv hok
   obtain ⟨x, Aq, nq, cq⟩ := q
   simp only [slQ] at y0 y1 y2 y3 y4 y5 y6 hnx hkk hrv hok
   have hal := (Below.refl wr.heap.size wr).alloc (Nat.le_refl _) (.cells #[.int .i64 x.k, .string x.name, .int .i64 (x.ver 0), .int .i64 (x.ver 1), .int .i64 (x.ver 2), .string x.other, .slice Aq nq cq] 38)
   have HCT := hide (show CtC w (.slice (some ⟨gq, 0, none⟩) qs.length c) qs wr.heap.size x Aq nq cq (wr.alloc (.cells #[.int .i64 x.k, .string x.name, .int .i64 (x.ver 0), .int .i64 (x.ver 1), .int .i64 (x.ver 2), .string x.other, .slice Aq nq cq] 38)) from ⟨HW.out.trans (hal.mono HW.out.size), HLN.out.below hal, Blk.new wr _ _, hrv.below hal⟩)
   have HBA := hide (HBT.out.below hal)
   have HOKX := Lib.hid hok
   have HNI := Lib.hid hnx
   have HZ0 := Lib.hid (show (tx i).size ≤ 13800005000100 by omega)
   have HLS := Lib.hid (lnTx_size hok)
   clear hal hrv hok hnx hz0 HW HLN HBT
   go_upto_region 5 with fail
   generalize World.alloc _ (.cells #[.int .i64 x.k, .string x.name, .int .i64 (x.ver 0), .int .i64 (x.ver 1), .int .i64 (x.ver 2), .string x.other, .slice Aq nq cq] 38) = wA at HCT HBA ⊢
   generalize wr.heap.size = bx at HCT ⊢
   clear y0 y1 y2 y3 y4 y5 y6
   have c0 := HCT.out.blk.cell 0
   have adds : ∀ (a b : ByteArray), a.size + b.size ≤ 9223372036854775807 → ∀ w : World, (Op.stringOp .add a b).run Tryz.prog w = .ok (.string (a ++ b)) w := fun a b h w => run_string_add_sum (P := Tryz.prog) w a b h
   have hz1 := HOKX.out.nm
   have hz2 := HOKX.out.ot
   have hz3 := rgT_size HOKX.out.can
   have hz4 := verS_size HOKX.out.v
   rcases (show x.k = 1 ∨ x.k = 2 ∨ x.k = 3 ∨ x.k = 4 by omega) with hk | hk | hk | hk
   ·have k1 : (x.k == 1) = true := by rw [hk]; rfl
    have htx : lnTx x = kwB 1 ++ spB1 ++ x.name ++ spB1 ++ verS x.ver := by unfold lnTx; rw [hk]; rfl
    rw [show kwB 1 ++ spB1 = (⟨#[112, 97, 99, 107, 97, 103, 101, 32]⟩ : ByteArray) from rfl] at htx
    clear hk
    obtain ⟨s28, hs28⟩ : ∃ s : ByteArray, (⟨#[112, 97, 99, 107, 97, 103, 101, 32]⟩ : ByteArray) ++ x.name = s := ⟨_, rfl⟩
    have z28 : s28.size = (⟨#[112, 97, 99, 107, 97, 103, 101, 32]⟩ : ByteArray).size + (x.name : ByteArray).size := by rw [← hs28, ByteArray.size_append]
    have q28 : ∀ w : World, (Op.stringOp .add (⟨#[112, 97, 99, 107, 97, 103, 101, 32]⟩ : ByteArray) x.name).run Tryz.prog w = .ok (.string s28) w := by rw [← hs28]; exact adds _ _ (by rw [← ByteArray.size_append, hs28, z28]; simp only [show ∀ a : Array UInt8, (⟨a⟩ : ByteArray).size = a.size from fun _ => rfl, List.size_toArray, List.length_cons, List.length_nil] at *; omega)
    obtain ⟨s29, hs29⟩ : ∃ s : ByteArray, (s28 : ByteArray) ++ ⟨#[32]⟩ = s := ⟨_, rfl⟩
    have z29 : s29.size = (s28 : ByteArray).size + (⟨#[32]⟩ : ByteArray).size := by rw [← hs29, ByteArray.size_append]
    have q29 : ∀ w : World, (Op.stringOp .add (s28 : ByteArray) ⟨#[32]⟩).run Tryz.prog w = .ok (.string s29) w := by rw [← hs29]; exact adds _ _ (by rw [← ByteArray.size_append, hs29, z29]; simp only [show ∀ a : Array UInt8, (⟨a⟩ : ByteArray).size = a.size from fun _ => rfl, List.size_toArray, List.length_cons, List.length_nil] at *; omega)
    obtain ⟨s33, hs33⟩ : ∃ s : ByteArray, (s29 : ByteArray) ++ (verS x.ver) = s := ⟨_, rfl⟩
    have z33 : s33.size = (s29 : ByteArray).size + ((verS x.ver) : ByteArray).size := by rw [← hs33, ByteArray.size_append]
    have q33 : ∀ w : World, (Op.stringOp .add (s29 : ByteArray) (verS x.ver)).run Tryz.prog w = .ok (.string s33) w := by rw [← hs33]; exact adds _ _ (by rw [← ByteArray.size_append, hs33, z33]; simp only [show ∀ a : Array UInt8, (⟨a⟩ : ByteArray).size = a.size from fun _ => rfl, List.size_toArray, List.length_cons, List.length_nil] at *; omega)
    have hfin : lnTx x = s33 := by rw [htx]; rw [← hs33]; rw [← hs29]; rw [← hs28]; rfl
    have HFIN := Lib.hid hfin
    have HZF := Lib.hid (show s33.size ≤ 138000050000 by rw [← hfin]; exact HLS.out)
    clear htx hfin hs28 z28 hs29 z29 hs33 z33
    go_wp2_with fail
    refine wp_region_stG (R := rV #[.pointer (some ⟨bx, 1, none⟩), .string x.name, .string s28, .string s29, .pointer (some ⟨bx, 2, none⟩), .agg (verArr x.ver), .string (verS x.ver), .string s33, .tuple #[.int .i64 ((s33.size : Nat) : Int), .nilIface]]) (J := CtJ w (.slice (some ⟨gq, 0, none⟩) qs.length c) qs bx x Aq nq cq 8 (tx i) s33) 78 hmx rfl (by kernel_rfl) (by kernel_rfl) (by kernel_rfl) ⟨HCT.out.below ((Below.refl _ _).drew), fun _ => HBA.out.below ((Below.refl _ _).drew), fun e => by simp at e⟩ ?hnd ?step ?fin
    case hnd =>
     intro i o ho c e
     have hlt : i < 9 := (Array.getElem?_eq_some_iff.1 ho).1
     rcases (show i = 0 ∨ i = 1 ∨ i = 2 ∨ i = 3 ∨ i = 4 ∨ i = 5 ∨ i = 6 ∨ i = 7 ∨ i = 8 by omega) with rfl | rfl | rfl | rfl | rfl | rfl | rfl | rfl | rfl <;> (injection ho with ho; subst ho; cases e)
    case step =>
     intro i o listed a' ww ho hls hr hI
     have hj := hI.j
     have hfr := StG.fresh hr
     have ho2 := ho
     have hlt : i < 9 := (Array.getElem?_eq_some_iff.1 ho).1
     have hls2 : listed.size = 9 := hls
     rcases (show i = 0 ∨ i = 1 ∨ i = 2 ∨ i = 3 ∨ i = 4 ∨ i = 5 ∨ i = 6 ∨ i = 7 ∨ i = 8 by omega) with rfl | rfl | rfl | rfl | rfl | rfl | rfl | rfl | rfl
     ·injection ho with ho
      subst ho
      have r5 := hI.was (k := 5) (v := .pointer (some ⟨bx, 0, none⟩)) (by kernel_rfl) rfl
      have e5 := eval_slot r5
      refine ⟨rfl, ?_⟩
      clear hI hr
      go_simp
      exact ⟨_, rfl, rfl, hj.calm (by decide) (Below.refl _ _)⟩
     ·injection ho with ho
      subst ho
      obtain ⟨q26, r26, g26⟩ := hI.got hr ho2 0 26 (by kernel_rfl) rfl rfl
      obtain rfl : q26 = .pointer (some ⟨bx, 1, none⟩) := g26
      have e26 := eval_slot r26
      have y1 := hj.c.blk.cell 1
      refine ⟨rfl, ?_⟩
      clear hI hr
      go_simp
      exact ⟨_, rfl, rfl, hj.calm (by decide) (Below.refl _ _)⟩
     ·injection ho with ho
      subst ho
      obtain ⟨q27, r27, g27⟩ := hI.got hr ho2 1 27 (by kernel_rfl) rfl rfl
      obtain rfl : q27 = .string x.name := g27
      have e27 := eval_slot r27
      refine ⟨rfl, ?_⟩
      clear hI hr
      go_simp
      exact ⟨_, rfl, rfl, hj.calm (by decide) (Below.refl _ _)⟩
     ·injection ho with ho
      subst ho
      obtain ⟨q28, r28, g28⟩ := hI.got hr ho2 2 28 (by kernel_rfl) rfl rfl
      obtain rfl : q28 = .string s28 := g28
      have e28 := eval_slot r28
      refine ⟨rfl, ?_⟩
      clear hI hr
      go_simp
      exact ⟨_, rfl, rfl, hj.calm (by decide) (Below.refl _ _)⟩
     ·injection ho with ho
      subst ho
      have r5 := hI.was (k := 5) (v := .pointer (some ⟨bx, 0, none⟩)) (by kernel_rfl) rfl
      have e5 := eval_slot r5
      refine ⟨rfl, ?_⟩
      clear hI hr
      go_simp
      exact ⟨_, rfl, rfl, hj.calm (by decide) (Below.refl _ _)⟩
     ·injection ho with ho
      subst ho
      obtain ⟨q30, r30, g30⟩ := hI.got hr ho2 4 30 (by kernel_rfl) rfl rfl
      obtain rfl : q30 = .pointer (some ⟨bx, 2, none⟩) := g30
      have e30 := eval_slot r30
      have y2 := hj.c.blk.cell 2
      have y3 := hj.c.blk.cell 3
      have y4 := hj.c.blk.cell 4
      refine ⟨rfl, ?_⟩
      clear hI hr
      go_simp
      exact ⟨_, rfl, rfl, hj.calm (by decide) (Below.refl _ _)⟩
     ·injection ho with ho
      subst ho
      obtain ⟨q31, r31, g31⟩ := hI.got hr ho2 5 31 (by kernel_rfl) rfl rfl
      obtain rfl : q31 = .agg (verArr x.ver) := g31
      have e31 := eval_slot r31
      have HVT := hide (verText_any x.ver ww (HG.out.below hj.c.bel) HOKX.out.v)
      unfold VerTxP verArr at HVT
      refine ⟨rfl, ?_⟩
      clear hI hr
      go_simp
      refine HVT.out.mono ?_
      rintro e w9 ⟨rfl, hb9⟩
      exact ⟨_, rfl, rfl, fun _ _ _ h => h, hj.calm (by decide) hb9⟩
     ·injection ho with ho
      subst ho
      obtain ⟨q29, r29, g29⟩ := hI.got hr ho2 3 29 (by kernel_rfl) rfl rfl
      obtain rfl : q29 = .string s29 := g29
      have e29 := eval_slot r29
      obtain ⟨q32, r32, g32⟩ := hI.got hr ho2 6 32 (by kernel_rfl) rfl rfl
      obtain rfl : q32 = .string (verS x.ver) := g32
      have e32 := eval_slot r32
      refine ⟨rfl, ?_⟩
      clear hI hr
      go_simp
      exact ⟨_, rfl, rfl, hj.calm (by decide) (Below.refl _ _)⟩
     ·injection ho with ho
      subst ho
      obtain ⟨q33, r33, g33⟩ := hI.got hr ho2 7 33 (by kernel_rfl) rfl rfl
      obtain rfl : q33 = .string s33 := g33
      have e33 := eval_slot r33
      have r3 := hI.was (k := 3) (v := .pointer (some ⟨w.heap.size, 0, none⟩)) (by kernel_rfl) rfl
      have e3 := eval_slot r3
      have HWS := hide (Tryz.Builder_WriteString_k w.heap.size w.heap.size (Lib.byteCells (tx i).data.toList) s33 ww (hj.b0 hfr) (by rw [Lib.byteCells_length, Array.length_toList]; have := HZ0.out; have := HZF.out; show (tx i).size + _ ≤ _; omega) hj.c.bel.size)
      refine ⟨rfl, ?_⟩
      clear hI hr
      go_simp
      refine HWS.out.mono ?_
      rintro e w9 ⟨rfl, h1, h2, h3⟩
      exact ⟨_, rfl, rfl, fun _ _ _ h => h, hj.write hfr (by omega) h2 h3 h1⟩
    case fin =>
     intro listed a' ww hall hI
     have hend := hI.j.b1 (hall 8 (by decide))
     have HCE := hide hI.j.c
     have HBE := hide hend
     have r0 := hI.was (k := 0) (v := .pointer (some ⟨g, 0, none⟩)) (by kernel_rfl) rfl
     have r2 := hI.was (k := 2) (v := .string ⟨#[]⟩) (by kernel_rfl) rfl
     have r3 := hI.was (k := 3) (v := .pointer (some ⟨w.heap.size, 0, none⟩)) (by kernel_rfl) rfl
     have r6 := hI.was (k := 6) (v := .pointer (some ⟨g, 0, none⟩)) (by kernel_rfl) rfl
     have r7 := hI.was (k := 7) (v := .slice (some ⟨gq, 0, none⟩) qs.length c) (by kernel_rfl) rfl
     have r8 := hI.was (k := 8) (v := .int .i64 (qs.length : Int)) (by kernel_rfl) rfl
     have r9 := hI.was (k := 9) (v := .int .i64 (i : Int)) (by kernel_rfl) rfl
     have r1 := hI.was (k := 1) (v := undef) (by kernel_rfl) rfl
     have r4 := hI.was (k := 4) (v := undef) (by kernel_rfl) rfl
     have r77 := hI.was (k := 77) (v := undef) (by kernel_rfl) rfl
     have hsz : a'.tmps.size = 78 := hI.size
     have hdf : a'.defers = [] := hI.defers
     obtain ⟨tm, df⟩ := a'
     obtain ⟨xs, hxs⟩ := arrX tm 78 hsz
     have hxs2 : tm = #[xs 0, xs 1, xs 2, xs 3, xs 4, xs 5, xs 6, xs 7, xs 8, xs 9, xs 10, xs 11, xs 12, xs 13, xs 14, xs 15, xs 16, xs 17, xs 18, xs 19, xs 20, xs 21, xs 22, xs 23, xs 24, xs 25, xs 26, xs 27, xs 28, xs 29, xs 30, xs 31, xs 32, xs 33, xs 34, xs 35, xs 36, xs 37, xs 38, xs 39, xs 40, xs 41, xs 42, xs 43, xs 44, xs 45, xs 46, xs 47, xs 48, xs 49, xs 50, xs 51, xs 52, xs 53, xs 54, xs 55, xs 56, xs 57, xs 58, xs 59, xs 60, xs 61, xs 62, xs 63, xs 64, xs 65, xs 66, xs 67, xs 68, xs 69, xs 70, xs 71, xs 72, xs 73, xs 74, xs 75, xs 76, xs 77] := hxs
     have hdf : df = [] := hdf
     subst hxs2 hdf
     have x0 : xs 0 = .pointer (some ⟨g, 0, none⟩) := Option.some.inj r0
     have x2 : xs 2 = .string ⟨#[]⟩ := Option.some.inj r2
     have x3 : xs 3 = .pointer (some ⟨w.heap.size, 0, none⟩) := Option.some.inj r3
     have x6 : xs 6 = .pointer (some ⟨g, 0, none⟩) := Option.some.inj r6
     have x7 : xs 7 = .slice (some ⟨gq, 0, none⟩) qs.length c := Option.some.inj r7
     have x8 : xs 8 = .int .i64 (qs.length : Int) := Option.some.inj r8
     have x9 : xs 9 = .int .i64 (i : Int) := Option.some.inj r9
     have x1 : xs 1 = undef := Option.some.inj r1
     have x4 : xs 4 = undef := Option.some.inj r4
     have x77 : xs 77 = undef := Option.some.inj r77
     rw [x0, x2, x3, x6, x7, x8, x9, x1, x4, x77]
     clear hI hall hend hsz hxs r0 x0 r2 x2 r3 x3 r6 x6 r7 x7 r8 x8 r9 x9 r1 x1 r4 x4 r77 x77
     have HWB := hide (Tryz.Builder_WriteByte_k w.heap.size w.heap.size (Lib.byteCells (tx i ++ s33).data.toList) 10 ww HBE.out (by rw [Lib.byteCells_length, Array.length_toList]; have := HZ0.out; have := HZF.out; have e9 := ByteArray.size_append (a := tx i) (b := s33); show (tx i ++ s33).size + 1 ≤ _; omega) HCE.out.bel.size)
     go_wp2_with fail
     refine HWB.out.mono ?_
     rintro e w9 ⟨rfl, h1, h2, h3⟩
     have HCN := hide (HCE.out.write HBE.out h2 h3)
     have HBN := hide (show BlT w.heap.size (tx (i + 1)) w9 by
      unfold BlT
      rw [HNI.out, HFIN.out, byteCells_app]
      exact .inr h1)
     clear h1 h2 h3 HWB HCE HBE
     go_wp2_with fail
     go_round
     case rel => exact ⟨i + 1, by omega, by go_num, hide HCN.out.bel, hide HCN.out.ln, HBN⟩
     case measure => simp [intOf]; omega
   ·have k1 : (x.k == 1) = false := by rw [hk]; rfl
    have k2 : (x.k == 2) = true := by rw [hk]; rfl
    have htx : lnTx x = kwB 2 ++ spB1 ++ x.name ++ spB1 ++ verS x.ver ++ spB1 ++ x.other ++ spB1 ++ baL (rangeT x.rg) := by unfold lnTx; rw [hk]; rfl
    rw [show kwB 2 ++ spB1 = (⟨#[110, 101, 101, 100, 115, 32]⟩ : ByteArray) from rfl] at htx
    clear hk
    obtain ⟨s39, hs39⟩ : ∃ s : ByteArray, (⟨#[110, 101, 101, 100, 115, 32]⟩ : ByteArray) ++ x.name = s := ⟨_, rfl⟩
    have z39 : s39.size = (⟨#[110, 101, 101, 100, 115, 32]⟩ : ByteArray).size + (x.name : ByteArray).size := by rw [← hs39, ByteArray.size_append]
    have q39 : ∀ w : World, (Op.stringOp .add (⟨#[110, 101, 101, 100, 115, 32]⟩ : ByteArray) x.name).run Tryz.prog w = .ok (.string s39) w := by rw [← hs39]; exact adds _ _ (by rw [← ByteArray.size_append, hs39, z39]; simp only [show ∀ a : Array UInt8, (⟨a⟩ : ByteArray).size = a.size from fun _ => rfl, List.size_toArray, List.length_cons, List.length_nil] at *; omega)
    obtain ⟨s40, hs40⟩ : ∃ s : ByteArray, (s39 : ByteArray) ++ ⟨#[32]⟩ = s := ⟨_, rfl⟩
    have z40 : s40.size = (s39 : ByteArray).size + (⟨#[32]⟩ : ByteArray).size := by rw [← hs40, ByteArray.size_append]
    have q40 : ∀ w : World, (Op.stringOp .add (s39 : ByteArray) ⟨#[32]⟩).run Tryz.prog w = .ok (.string s40) w := by rw [← hs40]; exact adds _ _ (by rw [← ByteArray.size_append, hs40, z40]; simp only [show ∀ a : Array UInt8, (⟨a⟩ : ByteArray).size = a.size from fun _ => rfl, List.size_toArray, List.length_cons, List.length_nil] at *; omega)
    obtain ⟨s44, hs44⟩ : ∃ s : ByteArray, (s40 : ByteArray) ++ (verS x.ver) = s := ⟨_, rfl⟩
    have z44 : s44.size = (s40 : ByteArray).size + ((verS x.ver) : ByteArray).size := by rw [← hs44, ByteArray.size_append]
    have q44 : ∀ w : World, (Op.stringOp .add (s40 : ByteArray) (verS x.ver)).run Tryz.prog w = .ok (.string s44) w := by rw [← hs44]; exact adds _ _ (by rw [← ByteArray.size_append, hs44, z44]; simp only [show ∀ a : Array UInt8, (⟨a⟩ : ByteArray).size = a.size from fun _ => rfl, List.size_toArray, List.length_cons, List.length_nil] at *; omega)
    obtain ⟨s45, hs45⟩ : ∃ s : ByteArray, (s44 : ByteArray) ++ ⟨#[32]⟩ = s := ⟨_, rfl⟩
    have z45 : s45.size = (s44 : ByteArray).size + (⟨#[32]⟩ : ByteArray).size := by rw [← hs45, ByteArray.size_append]
    have q45 : ∀ w : World, (Op.stringOp .add (s44 : ByteArray) ⟨#[32]⟩).run Tryz.prog w = .ok (.string s45) w := by rw [← hs45]; exact adds _ _ (by rw [← ByteArray.size_append, hs45, z45]; simp only [show ∀ a : Array UInt8, (⟨a⟩ : ByteArray).size = a.size from fun _ => rfl, List.size_toArray, List.length_cons, List.length_nil] at *; omega)
    obtain ⟨s48, hs48⟩ : ∃ s : ByteArray, (s45 : ByteArray) ++ x.other = s := ⟨_, rfl⟩
    have z48 : s48.size = (s45 : ByteArray).size + (x.other : ByteArray).size := by rw [← hs48, ByteArray.size_append]
    have q48 : ∀ w : World, (Op.stringOp .add (s45 : ByteArray) x.other).run Tryz.prog w = .ok (.string s48) w := by rw [← hs48]; exact adds _ _ (by rw [← ByteArray.size_append, hs48, z48]; simp only [show ∀ a : Array UInt8, (⟨a⟩ : ByteArray).size = a.size from fun _ => rfl, List.size_toArray, List.length_cons, List.length_nil] at *; omega)
    obtain ⟨s49, hs49⟩ : ∃ s : ByteArray, (s48 : ByteArray) ++ ⟨#[32]⟩ = s := ⟨_, rfl⟩
    have z49 : s49.size = (s48 : ByteArray).size + (⟨#[32]⟩ : ByteArray).size := by rw [← hs49, ByteArray.size_append]
    have q49 : ∀ w : World, (Op.stringOp .add (s48 : ByteArray) ⟨#[32]⟩).run Tryz.prog w = .ok (.string s49) w := by rw [← hs49]; exact adds _ _ (by rw [← ByteArray.size_append, hs49, z49]; simp only [show ∀ a : Array UInt8, (⟨a⟩ : ByteArray).size = a.size from fun _ => rfl, List.size_toArray, List.length_cons, List.length_nil] at *; omega)
    obtain ⟨s53, hs53⟩ : ∃ s : ByteArray, (s49 : ByteArray) ++ (baL (rangeT x.rg)) = s := ⟨_, rfl⟩
    have z53 : s53.size = (s49 : ByteArray).size + ((baL (rangeT x.rg)) : ByteArray).size := by rw [← hs53, ByteArray.size_append]
    have q53 : ∀ w : World, (Op.stringOp .add (s49 : ByteArray) (baL (rangeT x.rg))).run Tryz.prog w = .ok (.string s53) w := by rw [← hs53]; exact adds _ _ (by rw [← ByteArray.size_append, hs53, z53]; simp only [show ∀ a : Array UInt8, (⟨a⟩ : ByteArray).size = a.size from fun _ => rfl, List.size_toArray, List.length_cons, List.length_nil] at *; omega)
    have hfin : lnTx x = s53 := by rw [htx]; rw [← hs53]; rw [← hs49]; rw [← hs48]; rw [← hs45]; rw [← hs44]; rw [← hs40]; rw [← hs39]; rfl
    have HFIN := Lib.hid hfin
    have HZF := Lib.hid (show s53.size ≤ 138000050000 by rw [← hfin]; exact HLS.out)
    clear htx hfin hs39 z39 hs40 z40 hs44 z44 hs45 z45 hs48 z48 hs49 z49 hs53 z53
    go_wp2_with fail
    refine wp_region_stG (R := rV #[.pointer (some ⟨bx, 1, none⟩), .string x.name, .string s39, .string s40, .pointer (some ⟨bx, 2, none⟩), .agg (verArr x.ver), .string (verS x.ver), .string s44, .string s45, .pointer (some ⟨bx, 5, none⟩), .string x.other, .string s48, .string s49, .pointer (some ⟨bx, 6, none⟩), .agg #[.slice Aq nq cq], .string (baL (rangeT x.rg)), .string s53, .tuple #[.int .i64 ((s53.size : Nat) : Int), .nilIface]]) (J := CtJ w (.slice (some ⟨gq, 0, none⟩) qs.length c) qs bx x Aq nq cq 17 (tx i) s53) 78 hmx rfl (by kernel_rfl) (by kernel_rfl) (by kernel_rfl) ⟨HCT.out.below ((Below.refl _ _).drew), fun _ => HBA.out.below ((Below.refl _ _).drew), fun e => by simp at e⟩ ?hnd ?step ?fin
    case hnd =>
     intro i o ho c e
     have hlt : i < 18 := (Array.getElem?_eq_some_iff.1 ho).1
     rcases (show i = 0 ∨ i = 1 ∨ i = 2 ∨ i = 3 ∨ i = 4 ∨ i = 5 ∨ i = 6 ∨ i = 7 ∨ i = 8 ∨ i = 9 ∨ i = 10 ∨ i = 11 ∨ i = 12 ∨ i = 13 ∨ i = 14 ∨ i = 15 ∨ i = 16 ∨ i = 17 by omega) with rfl | rfl | rfl | rfl | rfl | rfl | rfl | rfl | rfl | rfl | rfl | rfl | rfl | rfl | rfl | rfl | rfl | rfl <;> (injection ho with ho; subst ho; cases e)
    case step =>
     intro i o listed a' ww ho hls hr hI
     have hj := hI.j
     have hfr := StG.fresh hr
     have ho2 := ho
     have hlt : i < 18 := (Array.getElem?_eq_some_iff.1 ho).1
     have hls2 : listed.size = 18 := hls
     rcases (show i = 0 ∨ i = 1 ∨ i = 2 ∨ i = 3 ∨ i = 4 ∨ i = 5 ∨ i = 6 ∨ i = 7 ∨ i = 8 ∨ i = 9 ∨ i = 10 ∨ i = 11 ∨ i = 12 ∨ i = 13 ∨ i = 14 ∨ i = 15 ∨ i = 16 ∨ i = 17 by omega) with rfl | rfl | rfl | rfl | rfl | rfl | rfl | rfl | rfl | rfl | rfl | rfl | rfl | rfl | rfl | rfl | rfl | rfl
     ·injection ho with ho
      subst ho
      have r5 := hI.was (k := 5) (v := .pointer (some ⟨bx, 0, none⟩)) (by kernel_rfl) rfl
      have e5 := eval_slot r5
      refine ⟨rfl, ?_⟩
      clear hI hr
      go_simp
      exact ⟨_, rfl, rfl, hj.calm (by decide) (Below.refl _ _)⟩
     ·injection ho with ho
      subst ho
      obtain ⟨q37, r37, g37⟩ := hI.got hr ho2 0 37 (by kernel_rfl) rfl rfl
      obtain rfl : q37 = .pointer (some ⟨bx, 1, none⟩) := g37
      have e37 := eval_slot r37
      have y1 := hj.c.blk.cell 1
      refine ⟨rfl, ?_⟩
      clear hI hr
      go_simp
      exact ⟨_, rfl, rfl, hj.calm (by decide) (Below.refl _ _)⟩
     ·injection ho with ho
      subst ho
      obtain ⟨q38, r38, g38⟩ := hI.got hr ho2 1 38 (by kernel_rfl) rfl rfl
      obtain rfl : q38 = .string x.name := g38
      have e38 := eval_slot r38
      refine ⟨rfl, ?_⟩
      clear hI hr
      go_simp
      exact ⟨_, rfl, rfl, hj.calm (by decide) (Below.refl _ _)⟩
     ·injection ho with ho
      subst ho
      obtain ⟨q39, r39, g39⟩ := hI.got hr ho2 2 39 (by kernel_rfl) rfl rfl
      obtain rfl : q39 = .string s39 := g39
      have e39 := eval_slot r39
      refine ⟨rfl, ?_⟩
      clear hI hr
      go_simp
      exact ⟨_, rfl, rfl, hj.calm (by decide) (Below.refl _ _)⟩
     ·injection ho with ho
      subst ho
      have r5 := hI.was (k := 5) (v := .pointer (some ⟨bx, 0, none⟩)) (by kernel_rfl) rfl
      have e5 := eval_slot r5
      refine ⟨rfl, ?_⟩
      clear hI hr
      go_simp
      exact ⟨_, rfl, rfl, hj.calm (by decide) (Below.refl _ _)⟩
     ·injection ho with ho
      subst ho
      obtain ⟨q41, r41, g41⟩ := hI.got hr ho2 4 41 (by kernel_rfl) rfl rfl
      obtain rfl : q41 = .pointer (some ⟨bx, 2, none⟩) := g41
      have e41 := eval_slot r41
      have y2 := hj.c.blk.cell 2
      have y3 := hj.c.blk.cell 3
      have y4 := hj.c.blk.cell 4
      refine ⟨rfl, ?_⟩
      clear hI hr
      go_simp
      exact ⟨_, rfl, rfl, hj.calm (by decide) (Below.refl _ _)⟩
     ·injection ho with ho
      subst ho
      obtain ⟨q42, r42, g42⟩ := hI.got hr ho2 5 42 (by kernel_rfl) rfl rfl
      obtain rfl : q42 = .agg (verArr x.ver) := g42
      have e42 := eval_slot r42
      have HVT := hide (verText_any x.ver ww (HG.out.below hj.c.bel) HOKX.out.v)
      unfold VerTxP verArr at HVT
      refine ⟨rfl, ?_⟩
      clear hI hr
      go_simp
      refine HVT.out.mono ?_
      rintro e w9 ⟨rfl, hb9⟩
      exact ⟨_, rfl, rfl, fun _ _ _ h => h, hj.calm (by decide) hb9⟩
     ·injection ho with ho
      subst ho
      obtain ⟨q40, r40, g40⟩ := hI.got hr ho2 3 40 (by kernel_rfl) rfl rfl
      obtain rfl : q40 = .string s40 := g40
      have e40 := eval_slot r40
      obtain ⟨q43, r43, g43⟩ := hI.got hr ho2 6 43 (by kernel_rfl) rfl rfl
      obtain rfl : q43 = .string (verS x.ver) := g43
      have e43 := eval_slot r43
      refine ⟨rfl, ?_⟩
      clear hI hr
      go_simp
      exact ⟨_, rfl, rfl, hj.calm (by decide) (Below.refl _ _)⟩
     ·injection ho with ho
      subst ho
      obtain ⟨q44, r44, g44⟩ := hI.got hr ho2 7 44 (by kernel_rfl) rfl rfl
      obtain rfl : q44 = .string s44 := g44
      have e44 := eval_slot r44
      refine ⟨rfl, ?_⟩
      clear hI hr
      go_simp
      exact ⟨_, rfl, rfl, hj.calm (by decide) (Below.refl _ _)⟩
     ·injection ho with ho
      subst ho
      have r5 := hI.was (k := 5) (v := .pointer (some ⟨bx, 0, none⟩)) (by kernel_rfl) rfl
      have e5 := eval_slot r5
      refine ⟨rfl, ?_⟩
      clear hI hr
      go_simp
      exact ⟨_, rfl, rfl, hj.calm (by decide) (Below.refl _ _)⟩
     ·injection ho with ho
      subst ho
      obtain ⟨q46, r46, g46⟩ := hI.got hr ho2 9 46 (by kernel_rfl) rfl rfl
      obtain rfl : q46 = .pointer (some ⟨bx, 5, none⟩) := g46
      have e46 := eval_slot r46
      have y5 := hj.c.blk.cell 5
      refine ⟨rfl, ?_⟩
      clear hI hr
      go_simp
      exact ⟨_, rfl, rfl, hj.calm (by decide) (Below.refl _ _)⟩
     ·injection ho with ho
      subst ho
      obtain ⟨q45, r45, g45⟩ := hI.got hr ho2 8 45 (by kernel_rfl) rfl rfl
      obtain rfl : q45 = .string s45 := g45
      have e45 := eval_slot r45
      obtain ⟨q47, r47, g47⟩ := hI.got hr ho2 10 47 (by kernel_rfl) rfl rfl
      obtain rfl : q47 = .string x.other := g47
      have e47 := eval_slot r47
      refine ⟨rfl, ?_⟩
      clear hI hr
      go_simp
      exact ⟨_, rfl, rfl, hj.calm (by decide) (Below.refl _ _)⟩
     ·injection ho with ho
      subst ho
      obtain ⟨q48, r48, g48⟩ := hI.got hr ho2 11 48 (by kernel_rfl) rfl rfl
      obtain rfl : q48 = .string s48 := g48
      have e48 := eval_slot r48
      refine ⟨rfl, ?_⟩
      clear hI hr
      go_simp
      exact ⟨_, rfl, rfl, hj.calm (by decide) (Below.refl _ _)⟩
     ·injection ho with ho
      subst ho
      have r5 := hI.was (k := 5) (v := .pointer (some ⟨bx, 0, none⟩)) (by kernel_rfl) rfl
      have e5 := eval_slot r5
      refine ⟨rfl, ?_⟩
      clear hI hr
      go_simp
      exact ⟨_, rfl, rfl, hj.calm (by decide) (Below.refl _ _)⟩
     ·injection ho with ho
      subst ho
      obtain ⟨q50, r50, g50⟩ := hI.got hr ho2 13 50 (by kernel_rfl) rfl rfl
      obtain rfl : q50 = .pointer (some ⟨bx, 6, none⟩) := g50
      have e50 := eval_slot r50
      have y6 := hj.c.blk.cell 6
      refine ⟨rfl, ?_⟩
      clear hI hr
      go_simp
      exact ⟨_, rfl, rfl, hj.calm (by decide) (Below.refl _ _)⟩
     ·injection ho with ho
      subst ho
      obtain ⟨q51, r51, g51⟩ := hI.got hr ho2 14 51 (by kernel_rfl) rfl rfl
      obtain rfl : q51 = .agg #[.slice Aq nq cq] := g51
      have e51 := eval_slot r51
      have HVT := hide (rangeText_any (.slice Aq nq cq) x.rg ww (HG.out.below hj.c.bel) hj.c.rv HOKX.out.can)
      unfold RgTxP at HVT
      refine ⟨rfl, ?_⟩
      clear hI hr
      go_simp
      refine HVT.out.mono ?_
      rintro e w9 ⟨rfl, hb9⟩
      exact ⟨_, rfl, rfl, fun _ _ _ h => h, hj.calm (by decide) hb9⟩
     ·injection ho with ho
      subst ho
      obtain ⟨q49, r49, g49⟩ := hI.got hr ho2 12 49 (by kernel_rfl) rfl rfl
      obtain rfl : q49 = .string s49 := g49
      have e49 := eval_slot r49
      obtain ⟨q52, r52, g52⟩ := hI.got hr ho2 15 52 (by kernel_rfl) rfl rfl
      obtain rfl : q52 = .string (baL (rangeT x.rg)) := g52
      have e52 := eval_slot r52
      refine ⟨rfl, ?_⟩
      clear hI hr
      go_simp
      exact ⟨_, rfl, rfl, hj.calm (by decide) (Below.refl _ _)⟩
     ·injection ho with ho
      subst ho
      obtain ⟨q53, r53, g53⟩ := hI.got hr ho2 16 53 (by kernel_rfl) rfl rfl
      obtain rfl : q53 = .string s53 := g53
      have e53 := eval_slot r53
      have r3 := hI.was (k := 3) (v := .pointer (some ⟨w.heap.size, 0, none⟩)) (by kernel_rfl) rfl
      have e3 := eval_slot r3
      have HWS := hide (Tryz.Builder_WriteString_k w.heap.size w.heap.size (Lib.byteCells (tx i).data.toList) s53 ww (hj.b0 hfr) (by rw [Lib.byteCells_length, Array.length_toList]; have := HZ0.out; have := HZF.out; show (tx i).size + _ ≤ _; omega) hj.c.bel.size)
      refine ⟨rfl, ?_⟩
      clear hI hr
      go_simp
      refine HWS.out.mono ?_
      rintro e w9 ⟨rfl, h1, h2, h3⟩
      exact ⟨_, rfl, rfl, fun _ _ _ h => h, hj.write hfr (by omega) h2 h3 h1⟩
    case fin =>
     intro listed a' ww hall hI
     have hend := hI.j.b1 (hall 17 (by decide))
     have HCE := hide hI.j.c
     have HBE := hide hend
     have r0 := hI.was (k := 0) (v := .pointer (some ⟨g, 0, none⟩)) (by kernel_rfl) rfl
     have r2 := hI.was (k := 2) (v := .string ⟨#[]⟩) (by kernel_rfl) rfl
     have r3 := hI.was (k := 3) (v := .pointer (some ⟨w.heap.size, 0, none⟩)) (by kernel_rfl) rfl
     have r6 := hI.was (k := 6) (v := .pointer (some ⟨g, 0, none⟩)) (by kernel_rfl) rfl
     have r7 := hI.was (k := 7) (v := .slice (some ⟨gq, 0, none⟩) qs.length c) (by kernel_rfl) rfl
     have r8 := hI.was (k := 8) (v := .int .i64 (qs.length : Int)) (by kernel_rfl) rfl
     have r9 := hI.was (k := 9) (v := .int .i64 (i : Int)) (by kernel_rfl) rfl
     have r1 := hI.was (k := 1) (v := undef) (by kernel_rfl) rfl
     have r4 := hI.was (k := 4) (v := undef) (by kernel_rfl) rfl
     have r77 := hI.was (k := 77) (v := undef) (by kernel_rfl) rfl
     have hsz : a'.tmps.size = 78 := hI.size
     have hdf : a'.defers = [] := hI.defers
     obtain ⟨tm, df⟩ := a'
     obtain ⟨xs, hxs⟩ := arrX tm 78 hsz
     have hxs2 : tm = #[xs 0, xs 1, xs 2, xs 3, xs 4, xs 5, xs 6, xs 7, xs 8, xs 9, xs 10, xs 11, xs 12, xs 13, xs 14, xs 15, xs 16, xs 17, xs 18, xs 19, xs 20, xs 21, xs 22, xs 23, xs 24, xs 25, xs 26, xs 27, xs 28, xs 29, xs 30, xs 31, xs 32, xs 33, xs 34, xs 35, xs 36, xs 37, xs 38, xs 39, xs 40, xs 41, xs 42, xs 43, xs 44, xs 45, xs 46, xs 47, xs 48, xs 49, xs 50, xs 51, xs 52, xs 53, xs 54, xs 55, xs 56, xs 57, xs 58, xs 59, xs 60, xs 61, xs 62, xs 63, xs 64, xs 65, xs 66, xs 67, xs 68, xs 69, xs 70, xs 71, xs 72, xs 73, xs 74, xs 75, xs 76, xs 77] := hxs
     have hdf : df = [] := hdf
     subst hxs2 hdf
     have x0 : xs 0 = .pointer (some ⟨g, 0, none⟩) := Option.some.inj r0
     have x2 : xs 2 = .string ⟨#[]⟩ := Option.some.inj r2
     have x3 : xs 3 = .pointer (some ⟨w.heap.size, 0, none⟩) := Option.some.inj r3
     have x6 : xs 6 = .pointer (some ⟨g, 0, none⟩) := Option.some.inj r6
     have x7 : xs 7 = .slice (some ⟨gq, 0, none⟩) qs.length c := Option.some.inj r7
     have x8 : xs 8 = .int .i64 (qs.length : Int) := Option.some.inj r8
     have x9 : xs 9 = .int .i64 (i : Int) := Option.some.inj r9
     have x1 : xs 1 = undef := Option.some.inj r1
     have x4 : xs 4 = undef := Option.some.inj r4
     have x77 : xs 77 = undef := Option.some.inj r77
     rw [x0, x2, x3, x6, x7, x8, x9, x1, x4, x77]
     clear hI hall hend hsz hxs r0 x0 r2 x2 r3 x3 r6 x6 r7 x7 r8 x8 r9 x9 r1 x1 r4 x4 r77 x77
     have HWB := hide (Tryz.Builder_WriteByte_k w.heap.size w.heap.size (Lib.byteCells (tx i ++ s53).data.toList) 10 ww HBE.out (by rw [Lib.byteCells_length, Array.length_toList]; have := HZ0.out; have := HZF.out; have e9 := ByteArray.size_append (a := tx i) (b := s53); show (tx i ++ s53).size + 1 ≤ _; omega) HCE.out.bel.size)
     go_wp2_with fail
     refine HWB.out.mono ?_
     rintro e w9 ⟨rfl, h1, h2, h3⟩
     have HCN := hide (HCE.out.write HBE.out h2 h3)
     have HBN := hide (show BlT w.heap.size (tx (i + 1)) w9 by
      unfold BlT
      rw [HNI.out, HFIN.out, byteCells_app]
      exact .inr h1)
     clear h1 h2 h3 HWB HCE HBE
     go_wp2_with fail
     go_round
     case rel => exact ⟨i + 1, by omega, by go_num, hide HCN.out.bel, hide HCN.out.ln, HBN⟩
     case measure => simp [intOf]; omega
   ·have k1 : (x.k == 1) = false := by rw [hk]; rfl
    have k2 : (x.k == 2) = false := by rw [hk]; rfl
    have k3 : (x.k == 3) = true := by rw [hk]; rfl
    have htx : lnTx x = kwB 3 ++ spB1 ++ x.name ++ spB1 ++ verS x.ver ++ spB1 ++ x.other ++ spB1 ++ baL (rangeT x.rg) := by unfold lnTx; rw [hk]; rfl
    rw [show kwB 3 ++ spB1 = (⟨#[99, 108, 97, 115, 104, 101, 115, 32]⟩ : ByteArray) from rfl] at htx
    clear hk
    obtain ⟨s59, hs59⟩ : ∃ s : ByteArray, (⟨#[99, 108, 97, 115, 104, 101, 115, 32]⟩ : ByteArray) ++ x.name = s := ⟨_, rfl⟩
    have z59 : s59.size = (⟨#[99, 108, 97, 115, 104, 101, 115, 32]⟩ : ByteArray).size + (x.name : ByteArray).size := by rw [← hs59, ByteArray.size_append]
    have q59 : ∀ w : World, (Op.stringOp .add (⟨#[99, 108, 97, 115, 104, 101, 115, 32]⟩ : ByteArray) x.name).run Tryz.prog w = .ok (.string s59) w := by rw [← hs59]; exact adds _ _ (by rw [← ByteArray.size_append, hs59, z59]; simp only [show ∀ a : Array UInt8, (⟨a⟩ : ByteArray).size = a.size from fun _ => rfl, List.size_toArray, List.length_cons, List.length_nil] at *; omega)
    obtain ⟨s60, hs60⟩ : ∃ s : ByteArray, (s59 : ByteArray) ++ ⟨#[32]⟩ = s := ⟨_, rfl⟩
    have z60 : s60.size = (s59 : ByteArray).size + (⟨#[32]⟩ : ByteArray).size := by rw [← hs60, ByteArray.size_append]
    have q60 : ∀ w : World, (Op.stringOp .add (s59 : ByteArray) ⟨#[32]⟩).run Tryz.prog w = .ok (.string s60) w := by rw [← hs60]; exact adds _ _ (by rw [← ByteArray.size_append, hs60, z60]; simp only [show ∀ a : Array UInt8, (⟨a⟩ : ByteArray).size = a.size from fun _ => rfl, List.size_toArray, List.length_cons, List.length_nil] at *; omega)
    obtain ⟨s64, hs64⟩ : ∃ s : ByteArray, (s60 : ByteArray) ++ (verS x.ver) = s := ⟨_, rfl⟩
    have z64 : s64.size = (s60 : ByteArray).size + ((verS x.ver) : ByteArray).size := by rw [← hs64, ByteArray.size_append]
    have q64 : ∀ w : World, (Op.stringOp .add (s60 : ByteArray) (verS x.ver)).run Tryz.prog w = .ok (.string s64) w := by rw [← hs64]; exact adds _ _ (by rw [← ByteArray.size_append, hs64, z64]; simp only [show ∀ a : Array UInt8, (⟨a⟩ : ByteArray).size = a.size from fun _ => rfl, List.size_toArray, List.length_cons, List.length_nil] at *; omega)
    obtain ⟨s65, hs65⟩ : ∃ s : ByteArray, (s64 : ByteArray) ++ ⟨#[32]⟩ = s := ⟨_, rfl⟩
    have z65 : s65.size = (s64 : ByteArray).size + (⟨#[32]⟩ : ByteArray).size := by rw [← hs65, ByteArray.size_append]
    have q65 : ∀ w : World, (Op.stringOp .add (s64 : ByteArray) ⟨#[32]⟩).run Tryz.prog w = .ok (.string s65) w := by rw [← hs65]; exact adds _ _ (by rw [← ByteArray.size_append, hs65, z65]; simp only [show ∀ a : Array UInt8, (⟨a⟩ : ByteArray).size = a.size from fun _ => rfl, List.size_toArray, List.length_cons, List.length_nil] at *; omega)
    obtain ⟨s68, hs68⟩ : ∃ s : ByteArray, (s65 : ByteArray) ++ x.other = s := ⟨_, rfl⟩
    have z68 : s68.size = (s65 : ByteArray).size + (x.other : ByteArray).size := by rw [← hs68, ByteArray.size_append]
    have q68 : ∀ w : World, (Op.stringOp .add (s65 : ByteArray) x.other).run Tryz.prog w = .ok (.string s68) w := by rw [← hs68]; exact adds _ _ (by rw [← ByteArray.size_append, hs68, z68]; simp only [show ∀ a : Array UInt8, (⟨a⟩ : ByteArray).size = a.size from fun _ => rfl, List.size_toArray, List.length_cons, List.length_nil] at *; omega)
    obtain ⟨s69, hs69⟩ : ∃ s : ByteArray, (s68 : ByteArray) ++ ⟨#[32]⟩ = s := ⟨_, rfl⟩
    have z69 : s69.size = (s68 : ByteArray).size + (⟨#[32]⟩ : ByteArray).size := by rw [← hs69, ByteArray.size_append]
    have q69 : ∀ w : World, (Op.stringOp .add (s68 : ByteArray) ⟨#[32]⟩).run Tryz.prog w = .ok (.string s69) w := by rw [← hs69]; exact adds _ _ (by rw [← ByteArray.size_append, hs69, z69]; simp only [show ∀ a : Array UInt8, (⟨a⟩ : ByteArray).size = a.size from fun _ => rfl, List.size_toArray, List.length_cons, List.length_nil] at *; omega)
    obtain ⟨s73, hs73⟩ : ∃ s : ByteArray, (s69 : ByteArray) ++ (baL (rangeT x.rg)) = s := ⟨_, rfl⟩
    have z73 : s73.size = (s69 : ByteArray).size + ((baL (rangeT x.rg)) : ByteArray).size := by rw [← hs73, ByteArray.size_append]
    have q73 : ∀ w : World, (Op.stringOp .add (s69 : ByteArray) (baL (rangeT x.rg))).run Tryz.prog w = .ok (.string s73) w := by rw [← hs73]; exact adds _ _ (by rw [← ByteArray.size_append, hs73, z73]; simp only [show ∀ a : Array UInt8, (⟨a⟩ : ByteArray).size = a.size from fun _ => rfl, List.size_toArray, List.length_cons, List.length_nil] at *; omega)
    have hfin : lnTx x = s73 := by rw [htx]; rw [← hs73]; rw [← hs69]; rw [← hs68]; rw [← hs65]; rw [← hs64]; rw [← hs60]; rw [← hs59]; rfl
    have HFIN := Lib.hid hfin
    have HZF := Lib.hid (show s73.size ≤ 138000050000 by rw [← hfin]; exact HLS.out)
    clear htx hfin hs59 z59 hs60 z60 hs64 z64 hs65 z65 hs68 z68 hs69 z69 hs73 z73
    go_wp2_with fail
    refine wp_region_stG (R := rV #[.pointer (some ⟨bx, 1, none⟩), .string x.name, .string s59, .string s60, .pointer (some ⟨bx, 2, none⟩), .agg (verArr x.ver), .string (verS x.ver), .string s64, .string s65, .pointer (some ⟨bx, 5, none⟩), .string x.other, .string s68, .string s69, .pointer (some ⟨bx, 6, none⟩), .agg #[.slice Aq nq cq], .string (baL (rangeT x.rg)), .string s73, .tuple #[.int .i64 ((s73.size : Nat) : Int), .nilIface]]) (J := CtJ w (.slice (some ⟨gq, 0, none⟩) qs.length c) qs bx x Aq nq cq 17 (tx i) s73) 78 hmx rfl (by kernel_rfl) (by kernel_rfl) (by kernel_rfl) ⟨HCT.out.below ((Below.refl _ _).drew), fun _ => HBA.out.below ((Below.refl _ _).drew), fun e => by simp at e⟩ ?hnd ?step ?fin
    case hnd =>
     intro i o ho c e
     have hlt : i < 18 := (Array.getElem?_eq_some_iff.1 ho).1
     rcases (show i = 0 ∨ i = 1 ∨ i = 2 ∨ i = 3 ∨ i = 4 ∨ i = 5 ∨ i = 6 ∨ i = 7 ∨ i = 8 ∨ i = 9 ∨ i = 10 ∨ i = 11 ∨ i = 12 ∨ i = 13 ∨ i = 14 ∨ i = 15 ∨ i = 16 ∨ i = 17 by omega) with rfl | rfl | rfl | rfl | rfl | rfl | rfl | rfl | rfl | rfl | rfl | rfl | rfl | rfl | rfl | rfl | rfl | rfl <;> (injection ho with ho; subst ho; cases e)
    case step =>
     intro i o listed a' ww ho hls hr hI
     have hj := hI.j
     have hfr := StG.fresh hr
     have ho2 := ho
     have hlt : i < 18 := (Array.getElem?_eq_some_iff.1 ho).1
     have hls2 : listed.size = 18 := hls
     rcases (show i = 0 ∨ i = 1 ∨ i = 2 ∨ i = 3 ∨ i = 4 ∨ i = 5 ∨ i = 6 ∨ i = 7 ∨ i = 8 ∨ i = 9 ∨ i = 10 ∨ i = 11 ∨ i = 12 ∨ i = 13 ∨ i = 14 ∨ i = 15 ∨ i = 16 ∨ i = 17 by omega) with rfl | rfl | rfl | rfl | rfl | rfl | rfl | rfl | rfl | rfl | rfl | rfl | rfl | rfl | rfl | rfl | rfl | rfl
     ·injection ho with ho
      subst ho
      have r5 := hI.was (k := 5) (v := .pointer (some ⟨bx, 0, none⟩)) (by kernel_rfl) rfl
      have e5 := eval_slot r5
      refine ⟨rfl, ?_⟩
      clear hI hr
      go_simp
      exact ⟨_, rfl, rfl, hj.calm (by decide) (Below.refl _ _)⟩
     ·injection ho with ho
      subst ho
      obtain ⟨q57, r57, g57⟩ := hI.got hr ho2 0 57 (by kernel_rfl) rfl rfl
      obtain rfl : q57 = .pointer (some ⟨bx, 1, none⟩) := g57
      have e57 := eval_slot r57
      have y1 := hj.c.blk.cell 1
      refine ⟨rfl, ?_⟩
      clear hI hr
      go_simp
      exact ⟨_, rfl, rfl, hj.calm (by decide) (Below.refl _ _)⟩
     ·injection ho with ho
      subst ho
      obtain ⟨q58, r58, g58⟩ := hI.got hr ho2 1 58 (by kernel_rfl) rfl rfl
      obtain rfl : q58 = .string x.name := g58
      have e58 := eval_slot r58
      refine ⟨rfl, ?_⟩
      clear hI hr
      go_simp
      exact ⟨_, rfl, rfl, hj.calm (by decide) (Below.refl _ _)⟩
     ·injection ho with ho
      subst ho
      obtain ⟨q59, r59, g59⟩ := hI.got hr ho2 2 59 (by kernel_rfl) rfl rfl
      obtain rfl : q59 = .string s59 := g59
      have e59 := eval_slot r59
      refine ⟨rfl, ?_⟩
      clear hI hr
      go_simp
      exact ⟨_, rfl, rfl, hj.calm (by decide) (Below.refl _ _)⟩
     ·injection ho with ho
      subst ho
      have r5 := hI.was (k := 5) (v := .pointer (some ⟨bx, 0, none⟩)) (by kernel_rfl) rfl
      have e5 := eval_slot r5
      refine ⟨rfl, ?_⟩
      clear hI hr
      go_simp
      exact ⟨_, rfl, rfl, hj.calm (by decide) (Below.refl _ _)⟩
     ·injection ho with ho
      subst ho
      obtain ⟨q61, r61, g61⟩ := hI.got hr ho2 4 61 (by kernel_rfl) rfl rfl
      obtain rfl : q61 = .pointer (some ⟨bx, 2, none⟩) := g61
      have e61 := eval_slot r61
      have y2 := hj.c.blk.cell 2
      have y3 := hj.c.blk.cell 3
      have y4 := hj.c.blk.cell 4
      refine ⟨rfl, ?_⟩
      clear hI hr
      go_simp
      exact ⟨_, rfl, rfl, hj.calm (by decide) (Below.refl _ _)⟩
     ·injection ho with ho
      subst ho
      obtain ⟨q62, r62, g62⟩ := hI.got hr ho2 5 62 (by kernel_rfl) rfl rfl
      obtain rfl : q62 = .agg (verArr x.ver) := g62
      have e62 := eval_slot r62
      have HVT := hide (verText_any x.ver ww (HG.out.below hj.c.bel) HOKX.out.v)
      unfold VerTxP verArr at HVT
      refine ⟨rfl, ?_⟩
      clear hI hr
      go_simp
      refine HVT.out.mono ?_
      rintro e w9 ⟨rfl, hb9⟩
      exact ⟨_, rfl, rfl, fun _ _ _ h => h, hj.calm (by decide) hb9⟩
     ·injection ho with ho
      subst ho
      obtain ⟨q60, r60, g60⟩ := hI.got hr ho2 3 60 (by kernel_rfl) rfl rfl
      obtain rfl : q60 = .string s60 := g60
      have e60 := eval_slot r60
      obtain ⟨q63, r63, g63⟩ := hI.got hr ho2 6 63 (by kernel_rfl) rfl rfl
      obtain rfl : q63 = .string (verS x.ver) := g63
      have e63 := eval_slot r63
      refine ⟨rfl, ?_⟩
      clear hI hr
      go_simp
      exact ⟨_, rfl, rfl, hj.calm (by decide) (Below.refl _ _)⟩
     ·injection ho with ho
      subst ho
      obtain ⟨q64, r64, g64⟩ := hI.got hr ho2 7 64 (by kernel_rfl) rfl rfl
      obtain rfl : q64 = .string s64 := g64
      have e64 := eval_slot r64
      refine ⟨rfl, ?_⟩
      clear hI hr
      go_simp
      exact ⟨_, rfl, rfl, hj.calm (by decide) (Below.refl _ _)⟩
     ·injection ho with ho
      subst ho
      have r5 := hI.was (k := 5) (v := .pointer (some ⟨bx, 0, none⟩)) (by kernel_rfl) rfl
      have e5 := eval_slot r5
      refine ⟨rfl, ?_⟩
      clear hI hr
      go_simp
      exact ⟨_, rfl, rfl, hj.calm (by decide) (Below.refl _ _)⟩
     ·injection ho with ho
      subst ho
      obtain ⟨q66, r66, g66⟩ := hI.got hr ho2 9 66 (by kernel_rfl) rfl rfl
      obtain rfl : q66 = .pointer (some ⟨bx, 5, none⟩) := g66
      have e66 := eval_slot r66
      have y5 := hj.c.blk.cell 5
      refine ⟨rfl, ?_⟩
      clear hI hr
      go_simp
      exact ⟨_, rfl, rfl, hj.calm (by decide) (Below.refl _ _)⟩
     ·injection ho with ho
      subst ho
      obtain ⟨q65, r65, g65⟩ := hI.got hr ho2 8 65 (by kernel_rfl) rfl rfl
      obtain rfl : q65 = .string s65 := g65
      have e65 := eval_slot r65
      obtain ⟨q67, r67, g67⟩ := hI.got hr ho2 10 67 (by kernel_rfl) rfl rfl
      obtain rfl : q67 = .string x.other := g67
      have e67 := eval_slot r67
      refine ⟨rfl, ?_⟩
      clear hI hr
      go_simp
      exact ⟨_, rfl, rfl, hj.calm (by decide) (Below.refl _ _)⟩
     ·injection ho with ho
      subst ho
      obtain ⟨q68, r68, g68⟩ := hI.got hr ho2 11 68 (by kernel_rfl) rfl rfl
      obtain rfl : q68 = .string s68 := g68
      have e68 := eval_slot r68
      refine ⟨rfl, ?_⟩
      clear hI hr
      go_simp
      exact ⟨_, rfl, rfl, hj.calm (by decide) (Below.refl _ _)⟩
     ·injection ho with ho
      subst ho
      have r5 := hI.was (k := 5) (v := .pointer (some ⟨bx, 0, none⟩)) (by kernel_rfl) rfl
      have e5 := eval_slot r5
      refine ⟨rfl, ?_⟩
      clear hI hr
      go_simp
      exact ⟨_, rfl, rfl, hj.calm (by decide) (Below.refl _ _)⟩
     ·injection ho with ho
      subst ho
      obtain ⟨q70, r70, g70⟩ := hI.got hr ho2 13 70 (by kernel_rfl) rfl rfl
      obtain rfl : q70 = .pointer (some ⟨bx, 6, none⟩) := g70
      have e70 := eval_slot r70
      have y6 := hj.c.blk.cell 6
      refine ⟨rfl, ?_⟩
      clear hI hr
      go_simp
      exact ⟨_, rfl, rfl, hj.calm (by decide) (Below.refl _ _)⟩
     ·injection ho with ho
      subst ho
      obtain ⟨q71, r71, g71⟩ := hI.got hr ho2 14 71 (by kernel_rfl) rfl rfl
      obtain rfl : q71 = .agg #[.slice Aq nq cq] := g71
      have e71 := eval_slot r71
      have HVT := hide (rangeText_any (.slice Aq nq cq) x.rg ww (HG.out.below hj.c.bel) hj.c.rv HOKX.out.can)
      unfold RgTxP at HVT
      refine ⟨rfl, ?_⟩
      clear hI hr
      go_simp
      refine HVT.out.mono ?_
      rintro e w9 ⟨rfl, hb9⟩
      exact ⟨_, rfl, rfl, fun _ _ _ h => h, hj.calm (by decide) hb9⟩
     ·injection ho with ho
      subst ho
      obtain ⟨q69, r69, g69⟩ := hI.got hr ho2 12 69 (by kernel_rfl) rfl rfl
      obtain rfl : q69 = .string s69 := g69
      have e69 := eval_slot r69
      obtain ⟨q72, r72, g72⟩ := hI.got hr ho2 15 72 (by kernel_rfl) rfl rfl
      obtain rfl : q72 = .string (baL (rangeT x.rg)) := g72
      have e72 := eval_slot r72
      refine ⟨rfl, ?_⟩
      clear hI hr
      go_simp
      exact ⟨_, rfl, rfl, hj.calm (by decide) (Below.refl _ _)⟩
     ·injection ho with ho
      subst ho
      obtain ⟨q73, r73, g73⟩ := hI.got hr ho2 16 73 (by kernel_rfl) rfl rfl
      obtain rfl : q73 = .string s73 := g73
      have e73 := eval_slot r73
      have r3 := hI.was (k := 3) (v := .pointer (some ⟨w.heap.size, 0, none⟩)) (by kernel_rfl) rfl
      have e3 := eval_slot r3
      have HWS := hide (Tryz.Builder_WriteString_k w.heap.size w.heap.size (Lib.byteCells (tx i).data.toList) s73 ww (hj.b0 hfr) (by rw [Lib.byteCells_length, Array.length_toList]; have := HZ0.out; have := HZF.out; show (tx i).size + _ ≤ _; omega) hj.c.bel.size)
      refine ⟨rfl, ?_⟩
      clear hI hr
      go_simp
      refine HWS.out.mono ?_
      rintro e w9 ⟨rfl, h1, h2, h3⟩
      exact ⟨_, rfl, rfl, fun _ _ _ h => h, hj.write hfr (by omega) h2 h3 h1⟩
    case fin =>
     intro listed a' ww hall hI
     have hend := hI.j.b1 (hall 17 (by decide))
     have HCE := hide hI.j.c
     have HBE := hide hend
     have r0 := hI.was (k := 0) (v := .pointer (some ⟨g, 0, none⟩)) (by kernel_rfl) rfl
     have r2 := hI.was (k := 2) (v := .string ⟨#[]⟩) (by kernel_rfl) rfl
     have r3 := hI.was (k := 3) (v := .pointer (some ⟨w.heap.size, 0, none⟩)) (by kernel_rfl) rfl
     have r6 := hI.was (k := 6) (v := .pointer (some ⟨g, 0, none⟩)) (by kernel_rfl) rfl
     have r7 := hI.was (k := 7) (v := .slice (some ⟨gq, 0, none⟩) qs.length c) (by kernel_rfl) rfl
     have r8 := hI.was (k := 8) (v := .int .i64 (qs.length : Int)) (by kernel_rfl) rfl
     have r9 := hI.was (k := 9) (v := .int .i64 (i : Int)) (by kernel_rfl) rfl
     have r1 := hI.was (k := 1) (v := undef) (by kernel_rfl) rfl
     have r4 := hI.was (k := 4) (v := undef) (by kernel_rfl) rfl
     have r77 := hI.was (k := 77) (v := undef) (by kernel_rfl) rfl
     have hsz : a'.tmps.size = 78 := hI.size
     have hdf : a'.defers = [] := hI.defers
     obtain ⟨tm, df⟩ := a'
     obtain ⟨xs, hxs⟩ := arrX tm 78 hsz
     have hxs2 : tm = #[xs 0, xs 1, xs 2, xs 3, xs 4, xs 5, xs 6, xs 7, xs 8, xs 9, xs 10, xs 11, xs 12, xs 13, xs 14, xs 15, xs 16, xs 17, xs 18, xs 19, xs 20, xs 21, xs 22, xs 23, xs 24, xs 25, xs 26, xs 27, xs 28, xs 29, xs 30, xs 31, xs 32, xs 33, xs 34, xs 35, xs 36, xs 37, xs 38, xs 39, xs 40, xs 41, xs 42, xs 43, xs 44, xs 45, xs 46, xs 47, xs 48, xs 49, xs 50, xs 51, xs 52, xs 53, xs 54, xs 55, xs 56, xs 57, xs 58, xs 59, xs 60, xs 61, xs 62, xs 63, xs 64, xs 65, xs 66, xs 67, xs 68, xs 69, xs 70, xs 71, xs 72, xs 73, xs 74, xs 75, xs 76, xs 77] := hxs
     have hdf : df = [] := hdf
     subst hxs2 hdf
     have x0 : xs 0 = .pointer (some ⟨g, 0, none⟩) := Option.some.inj r0
     have x2 : xs 2 = .string ⟨#[]⟩ := Option.some.inj r2
     have x3 : xs 3 = .pointer (some ⟨w.heap.size, 0, none⟩) := Option.some.inj r3
     have x6 : xs 6 = .pointer (some ⟨g, 0, none⟩) := Option.some.inj r6
     have x7 : xs 7 = .slice (some ⟨gq, 0, none⟩) qs.length c := Option.some.inj r7
     have x8 : xs 8 = .int .i64 (qs.length : Int) := Option.some.inj r8
     have x9 : xs 9 = .int .i64 (i : Int) := Option.some.inj r9
     have x1 : xs 1 = undef := Option.some.inj r1
     have x4 : xs 4 = undef := Option.some.inj r4
     have x77 : xs 77 = undef := Option.some.inj r77
     rw [x0, x2, x3, x6, x7, x8, x9, x1, x4, x77]
     clear hI hall hend hsz hxs r0 x0 r2 x2 r3 x3 r6 x6 r7 x7 r8 x8 r9 x9 r1 x1 r4 x4 r77 x77
     have HWB := hide (Tryz.Builder_WriteByte_k w.heap.size w.heap.size (Lib.byteCells (tx i ++ s73).data.toList) 10 ww HBE.out (by rw [Lib.byteCells_length, Array.length_toList]; have := HZ0.out; have := HZF.out; have e9 := ByteArray.size_append (a := tx i) (b := s73); show (tx i ++ s73).size + 1 ≤ _; omega) HCE.out.bel.size)
     go_wp2_with fail
     refine HWB.out.mono ?_
     rintro e w9 ⟨rfl, h1, h2, h3⟩
     have HCN := hide (HCE.out.write HBE.out h2 h3)
     have HBN := hide (show BlT w.heap.size (tx (i + 1)) w9 by
      unfold BlT
      rw [HNI.out, HFIN.out, byteCells_app]
      exact .inr h1)
     clear h1 h2 h3 HWB HCE HBE
     go_wp2_with fail
     go_round
     case rel => exact ⟨i + 1, by omega, by go_num, hide HCN.out.bel, hide HCN.out.ln, HBN⟩
     case measure => simp [intOf]; omega
   ·have k1 : (x.k == 1) = false := by rw [hk]; rfl
    have k2 : (x.k == 2) = false := by rw [hk]; rfl
    have k3 : (x.k == 3) = false := by rw [hk]; rfl
    have htx : lnTx x = kwB 4 ++ spB1 ++ x.name ++ spB1 ++ baL (rangeT x.rg) := by unfold lnTx; rw [hk]; rfl
    rw [show kwB 4 ++ spB1 = (⟨#[114, 111, 111, 116, 32]⟩ : ByteArray) from rfl] at htx
    clear hk
    obtain ⟨s17, hs17⟩ : ∃ s : ByteArray, (⟨#[114, 111, 111, 116, 32]⟩ : ByteArray) ++ x.name = s := ⟨_, rfl⟩
    have z17 : s17.size = (⟨#[114, 111, 111, 116, 32]⟩ : ByteArray).size + (x.name : ByteArray).size := by rw [← hs17, ByteArray.size_append]
    have q17 : ∀ w : World, (Op.stringOp .add (⟨#[114, 111, 111, 116, 32]⟩ : ByteArray) x.name).run Tryz.prog w = .ok (.string s17) w := by rw [← hs17]; exact adds _ _ (by rw [← ByteArray.size_append, hs17, z17]; simp only [show ∀ a : Array UInt8, (⟨a⟩ : ByteArray).size = a.size from fun _ => rfl, List.size_toArray, List.length_cons, List.length_nil] at *; omega)
    obtain ⟨s18, hs18⟩ : ∃ s : ByteArray, (s17 : ByteArray) ++ ⟨#[32]⟩ = s := ⟨_, rfl⟩
    have z18 : s18.size = (s17 : ByteArray).size + (⟨#[32]⟩ : ByteArray).size := by rw [← hs18, ByteArray.size_append]
    have q18 : ∀ w : World, (Op.stringOp .add (s17 : ByteArray) ⟨#[32]⟩).run Tryz.prog w = .ok (.string s18) w := by rw [← hs18]; exact adds _ _ (by rw [← ByteArray.size_append, hs18, z18]; simp only [show ∀ a : Array UInt8, (⟨a⟩ : ByteArray).size = a.size from fun _ => rfl, List.size_toArray, List.length_cons, List.length_nil] at *; omega)
    obtain ⟨s22, hs22⟩ : ∃ s : ByteArray, (s18 : ByteArray) ++ (baL (rangeT x.rg)) = s := ⟨_, rfl⟩
    have z22 : s22.size = (s18 : ByteArray).size + ((baL (rangeT x.rg)) : ByteArray).size := by rw [← hs22, ByteArray.size_append]
    have q22 : ∀ w : World, (Op.stringOp .add (s18 : ByteArray) (baL (rangeT x.rg))).run Tryz.prog w = .ok (.string s22) w := by rw [← hs22]; exact adds _ _ (by rw [← ByteArray.size_append, hs22, z22]; simp only [show ∀ a : Array UInt8, (⟨a⟩ : ByteArray).size = a.size from fun _ => rfl, List.size_toArray, List.length_cons, List.length_nil] at *; omega)
    have hfin : lnTx x = s22 := by rw [htx]; rw [← hs22]; rw [← hs18]; rw [← hs17]; rfl
    have HFIN := Lib.hid hfin
    have HZF := Lib.hid (show s22.size ≤ 138000050000 by rw [← hfin]; exact HLS.out)
    clear htx hfin hs17 z17 hs18 z18 hs22 z22
    go_wp2_with fail
    refine wp_region_stG (R := rV #[.pointer (some ⟨bx, 1, none⟩), .string x.name, .string s17, .string s18, .pointer (some ⟨bx, 6, none⟩), .agg #[.slice Aq nq cq], .string (baL (rangeT x.rg)), .string s22, .tuple #[.int .i64 ((s22.size : Nat) : Int), .nilIface]]) (J := CtJ w (.slice (some ⟨gq, 0, none⟩) qs.length c) qs bx x Aq nq cq 8 (tx i) s22) 78 hmx rfl (by kernel_rfl) (by kernel_rfl) (by kernel_rfl) ⟨HCT.out.below ((Below.refl _ _).drew), fun _ => HBA.out.below ((Below.refl _ _).drew), fun e => by simp at e⟩ ?hnd ?step ?fin
    case hnd =>
     intro i o ho c e
     have hlt : i < 9 := (Array.getElem?_eq_some_iff.1 ho).1
     rcases (show i = 0 ∨ i = 1 ∨ i = 2 ∨ i = 3 ∨ i = 4 ∨ i = 5 ∨ i = 6 ∨ i = 7 ∨ i = 8 by omega) with rfl | rfl | rfl | rfl | rfl | rfl | rfl | rfl | rfl <;> (injection ho with ho; subst ho; cases e)
    case step =>
     intro i o listed a' ww ho hls hr hI
     have hj := hI.j
     have hfr := StG.fresh hr
     have ho2 := ho
     have hlt : i < 9 := (Array.getElem?_eq_some_iff.1 ho).1
     have hls2 : listed.size = 9 := hls
     rcases (show i = 0 ∨ i = 1 ∨ i = 2 ∨ i = 3 ∨ i = 4 ∨ i = 5 ∨ i = 6 ∨ i = 7 ∨ i = 8 by omega) with rfl | rfl | rfl | rfl | rfl | rfl | rfl | rfl | rfl
     ·injection ho with ho
      subst ho
      have r5 := hI.was (k := 5) (v := .pointer (some ⟨bx, 0, none⟩)) (by kernel_rfl) rfl
      have e5 := eval_slot r5
      refine ⟨rfl, ?_⟩
      clear hI hr
      go_simp
      exact ⟨_, rfl, rfl, hj.calm (by decide) (Below.refl _ _)⟩
     ·injection ho with ho
      subst ho
      obtain ⟨q15, r15, g15⟩ := hI.got hr ho2 0 15 (by kernel_rfl) rfl rfl
      obtain rfl : q15 = .pointer (some ⟨bx, 1, none⟩) := g15
      have e15 := eval_slot r15
      have y1 := hj.c.blk.cell 1
      refine ⟨rfl, ?_⟩
      clear hI hr
      go_simp
      exact ⟨_, rfl, rfl, hj.calm (by decide) (Below.refl _ _)⟩
     ·injection ho with ho
      subst ho
      obtain ⟨q16, r16, g16⟩ := hI.got hr ho2 1 16 (by kernel_rfl) rfl rfl
      obtain rfl : q16 = .string x.name := g16
      have e16 := eval_slot r16
      refine ⟨rfl, ?_⟩
      clear hI hr
      go_simp
      exact ⟨_, rfl, rfl, hj.calm (by decide) (Below.refl _ _)⟩
     ·injection ho with ho
      subst ho
      obtain ⟨q17, r17, g17⟩ := hI.got hr ho2 2 17 (by kernel_rfl) rfl rfl
      obtain rfl : q17 = .string s17 := g17
      have e17 := eval_slot r17
      refine ⟨rfl, ?_⟩
      clear hI hr
      go_simp
      exact ⟨_, rfl, rfl, hj.calm (by decide) (Below.refl _ _)⟩
     ·injection ho with ho
      subst ho
      have r5 := hI.was (k := 5) (v := .pointer (some ⟨bx, 0, none⟩)) (by kernel_rfl) rfl
      have e5 := eval_slot r5
      refine ⟨rfl, ?_⟩
      clear hI hr
      go_simp
      exact ⟨_, rfl, rfl, hj.calm (by decide) (Below.refl _ _)⟩
     ·injection ho with ho
      subst ho
      obtain ⟨q19, r19, g19⟩ := hI.got hr ho2 4 19 (by kernel_rfl) rfl rfl
      obtain rfl : q19 = .pointer (some ⟨bx, 6, none⟩) := g19
      have e19 := eval_slot r19
      have y6 := hj.c.blk.cell 6
      refine ⟨rfl, ?_⟩
      clear hI hr
      go_simp
      exact ⟨_, rfl, rfl, hj.calm (by decide) (Below.refl _ _)⟩
     ·injection ho with ho
      subst ho
      obtain ⟨q20, r20, g20⟩ := hI.got hr ho2 5 20 (by kernel_rfl) rfl rfl
      obtain rfl : q20 = .agg #[.slice Aq nq cq] := g20
      have e20 := eval_slot r20
      have HVT := hide (rangeText_any (.slice Aq nq cq) x.rg ww (HG.out.below hj.c.bel) hj.c.rv HOKX.out.can)
      unfold RgTxP at HVT
      refine ⟨rfl, ?_⟩
      clear hI hr
      go_simp
      refine HVT.out.mono ?_
      rintro e w9 ⟨rfl, hb9⟩
      exact ⟨_, rfl, rfl, fun _ _ _ h => h, hj.calm (by decide) hb9⟩
     ·injection ho with ho
      subst ho
      obtain ⟨q18, r18, g18⟩ := hI.got hr ho2 3 18 (by kernel_rfl) rfl rfl
      obtain rfl : q18 = .string s18 := g18
      have e18 := eval_slot r18
      obtain ⟨q21, r21, g21⟩ := hI.got hr ho2 6 21 (by kernel_rfl) rfl rfl
      obtain rfl : q21 = .string (baL (rangeT x.rg)) := g21
      have e21 := eval_slot r21
      refine ⟨rfl, ?_⟩
      clear hI hr
      go_simp
      exact ⟨_, rfl, rfl, hj.calm (by decide) (Below.refl _ _)⟩
     ·injection ho with ho
      subst ho
      obtain ⟨q22, r22, g22⟩ := hI.got hr ho2 7 22 (by kernel_rfl) rfl rfl
      obtain rfl : q22 = .string s22 := g22
      have e22 := eval_slot r22
      have r3 := hI.was (k := 3) (v := .pointer (some ⟨w.heap.size, 0, none⟩)) (by kernel_rfl) rfl
      have e3 := eval_slot r3
      have HWS := hide (Tryz.Builder_WriteString_k w.heap.size w.heap.size (Lib.byteCells (tx i).data.toList) s22 ww (hj.b0 hfr) (by rw [Lib.byteCells_length, Array.length_toList]; have := HZ0.out; have := HZF.out; show (tx i).size + _ ≤ _; omega) hj.c.bel.size)
      refine ⟨rfl, ?_⟩
      clear hI hr
      go_simp
      refine HWS.out.mono ?_
      rintro e w9 ⟨rfl, h1, h2, h3⟩
      exact ⟨_, rfl, rfl, fun _ _ _ h => h, hj.write hfr (by omega) h2 h3 h1⟩
    case fin =>
     intro listed a' ww hall hI
     have hend := hI.j.b1 (hall 8 (by decide))
     have HCE := hide hI.j.c
     have HBE := hide hend
     have r0 := hI.was (k := 0) (v := .pointer (some ⟨g, 0, none⟩)) (by kernel_rfl) rfl
     have r2 := hI.was (k := 2) (v := .string ⟨#[]⟩) (by kernel_rfl) rfl
     have r3 := hI.was (k := 3) (v := .pointer (some ⟨w.heap.size, 0, none⟩)) (by kernel_rfl) rfl
     have r6 := hI.was (k := 6) (v := .pointer (some ⟨g, 0, none⟩)) (by kernel_rfl) rfl
     have r7 := hI.was (k := 7) (v := .slice (some ⟨gq, 0, none⟩) qs.length c) (by kernel_rfl) rfl
     have r8 := hI.was (k := 8) (v := .int .i64 (qs.length : Int)) (by kernel_rfl) rfl
     have r9 := hI.was (k := 9) (v := .int .i64 (i : Int)) (by kernel_rfl) rfl
     have r1 := hI.was (k := 1) (v := undef) (by kernel_rfl) rfl
     have r4 := hI.was (k := 4) (v := undef) (by kernel_rfl) rfl
     have r77 := hI.was (k := 77) (v := undef) (by kernel_rfl) rfl
     have hsz : a'.tmps.size = 78 := hI.size
     have hdf : a'.defers = [] := hI.defers
     obtain ⟨tm, df⟩ := a'
     obtain ⟨xs, hxs⟩ := arrX tm 78 hsz
     have hxs2 : tm = #[xs 0, xs 1, xs 2, xs 3, xs 4, xs 5, xs 6, xs 7, xs 8, xs 9, xs 10, xs 11, xs 12, xs 13, xs 14, xs 15, xs 16, xs 17, xs 18, xs 19, xs 20, xs 21, xs 22, xs 23, xs 24, xs 25, xs 26, xs 27, xs 28, xs 29, xs 30, xs 31, xs 32, xs 33, xs 34, xs 35, xs 36, xs 37, xs 38, xs 39, xs 40, xs 41, xs 42, xs 43, xs 44, xs 45, xs 46, xs 47, xs 48, xs 49, xs 50, xs 51, xs 52, xs 53, xs 54, xs 55, xs 56, xs 57, xs 58, xs 59, xs 60, xs 61, xs 62, xs 63, xs 64, xs 65, xs 66, xs 67, xs 68, xs 69, xs 70, xs 71, xs 72, xs 73, xs 74, xs 75, xs 76, xs 77] := hxs
     have hdf : df = [] := hdf
     subst hxs2 hdf
     have x0 : xs 0 = .pointer (some ⟨g, 0, none⟩) := Option.some.inj r0
     have x2 : xs 2 = .string ⟨#[]⟩ := Option.some.inj r2
     have x3 : xs 3 = .pointer (some ⟨w.heap.size, 0, none⟩) := Option.some.inj r3
     have x6 : xs 6 = .pointer (some ⟨g, 0, none⟩) := Option.some.inj r6
     have x7 : xs 7 = .slice (some ⟨gq, 0, none⟩) qs.length c := Option.some.inj r7
     have x8 : xs 8 = .int .i64 (qs.length : Int) := Option.some.inj r8
     have x9 : xs 9 = .int .i64 (i : Int) := Option.some.inj r9
     have x1 : xs 1 = undef := Option.some.inj r1
     have x4 : xs 4 = undef := Option.some.inj r4
     have x77 : xs 77 = undef := Option.some.inj r77
     rw [x0, x2, x3, x6, x7, x8, x9, x1, x4, x77]
     clear hI hall hend hsz hxs r0 x0 r2 x2 r3 x3 r6 x6 r7 x7 r8 x8 r9 x9 r1 x1 r4 x4 r77 x77
     have HWB := hide (Tryz.Builder_WriteByte_k w.heap.size w.heap.size (Lib.byteCells (tx i ++ s22).data.toList) 10 ww HBE.out (by rw [Lib.byteCells_length, Array.length_toList]; have := HZ0.out; have := HZF.out; have e9 := ByteArray.size_append (a := tx i) (b := s22); show (tx i ++ s22).size + 1 ≤ _; omega) HCE.out.bel.size)
     go_wp2_with fail
     refine HWB.out.mono ?_
     rintro e w9 ⟨rfl, h1, h2, h3⟩
     have HCN := hide (HCE.out.write HBE.out h2 h3)
     have HBN := hide (show BlT w.heap.size (tx (i + 1)) w9 by
      unfold BlT
      rw [HNI.out, HFIN.out, byteCells_app]
      exact .inr h1)
     clear h1 h2 h3 HWB HCE HBE
     go_wp2_with fail
     go_round
     case rel => exact ⟨i + 1, by omega, by go_num, hide HCN.out.bel, hide HCN.out.ln, HBN⟩
     case measure => simp [intOf]; omega
  ·have hltz : ¬ (i : Int) < (qs.length : Int) := by omega
   have hBT := HBT.out
   rw [show i = qs.length by omega] at hBT
   have HST := hide (Tryz.Builder_String_any_k w.heap.size w.heap.size (tx qs.length).data.toList wr hBT HW.out.size)
   have HBW := HW
   clear hBT
   go_wp2_with fail
   refine HST.out.mono ?_
   rintro e w9 ⟨rfl, h1, h2, h3⟩
   have HBE := hide (HBW.out.trans h2)
   clear h1 h2 h3 HST
   go_wp2_with fail
   exact bodyPost_ret (v := .string (tx qs.length)) (by simp [results, Tryz.results30, go_sem]) rfl ⟨rfl, HBE.out⟩
end Go.Proofs.YtmncoldaemcnlaaGreatDoor
