/-
  The law CatalogLines, walked.
-/
import Derived.Test.YtmncoldaemcnlaaGreatDoorCatLine
import Derived.Test.YtmncoldaemcnlaaGreatDoorCalm
import Derived.ChangeKeysEq
namespace Go.Proofs.YtmncoldaemcnlaaGreatDoor
open Go.RowKit
set_option maxRecDepth 100000

theorem infoInt_any : (Tryz.prog.info? 3).isSome = true := by kernel_rfl
theorem cellsInt_any : Tryz.prog.cellsOf 3 = 1 := by kernel_rfl
theorem eqlVer_any (x y z : Int) (w : World) : (binOp .eql 23 (.agg #[.int .i64 x, .int .i64 y, .int .i64 z]) (.agg #[.int .i64 x, .int .i64 y, .int .i64 z])).run Tryz.prog w = .ok (.bool true) w := by
  obtain ⟨i, hi⟩ := Option.isSome_iff_exists.1 infoInt_any
  have hp : ∀ (xs : Array Value) (j : Nat) (n : Int), xs[j]? = some (.int .i64 n) → (part 3 xs j).run Tryz.prog w = .ok (.int .i64 n) w := fun xs j n h => by simp [part, isAgg, run_underlying Tryz.underlying3, h]
  have he : ∀ (a b : Int), (Op.equalIn 9999 3 (.int .i64 a) (.int .i64 b)).run Tryz.prog w = .ok (a == b) w := fun a b => run_equalIn_int w 9998 3 .i64 .i64 a b Tryz.underlying3
  rw [run_eql_struct, run_equalIn_array w 9999 _ _ Tryz.underlying23 hi, cellsInt_any, show List.range 3 = [0, 1, 2] from rfl]
  simp [Op.eqItems, hp _ 0 x, hp _ 1 y, hp _ 2 z, he]
/-- What both told. -/
structure LlI (w0 : World) (b3 b4 b5 : Nat) (x : LnR) (v u : Value) (f : Int × Int) (er : Value) (wr : World) : Prop where
  k3 : Blk wr b3 27 #[.int .i64 x.k, .string x.name, .int .i64 (x.ver 0), .int .i64 (x.ver 1), .int .i64 (x.ver 2), .string x.other, v]
  k4 : Blk wr b4 30 #[.int .i64 f.1, .int .i64 f.2]
  k5 : Blk wr b5 38 #[.int .i64 x.k, .string x.name, .int .i64 (x.ver 0), .int .i64 (x.ver 1), .int .i64 (x.ver 2), .string x.other, u]
  ov : OwnI wr 0 v (flatI x.rg)
  ou : OwnP wr 0 u x.rg
  er_ : IsErr wr er f
  bel : Below w0.heap.size w0 wr
theorem LlI.below {w0 wr wr' : World} {b3 b4 b5 : Nat} {x : LnR} {v u : Value} {f : Int × Int} {er : Value} (h : LlI w0 b3 b4 b5 x v u f er wr) (hb : Below wr.heap.size wr wr') : LlI w0 b3 b4 b5 x v u f er wr' :=
  ⟨h.k3.below hb h.k3.lt, h.k4.below hb h.k4.lt, h.k5.below hb h.k5.lt, h.ov.below hb, h.ou.below hb, h.er_.below hb, h.bel.trans (hb.mono h.bel.size)⟩
set_option maxHeartbeats 8000000 in
theorem lawLine_walk (s : ByteArray) (w : World) (hG : GlobV w) (hF : FineP w) (hK : KindsP w) (hs : s.size ≤ 9223372036854775807) : Calls Tryz.prog 3 #[.string s] w (AtPost w true) := by
  have HG := hide hG
  by_cases hl : 1200 < s.size
  · have hz : (1200 : Int) < (s.size : Int) := by omega
    go_enter Tryz.func3, Tryz.ntmps3
    go_wp2_with fail
    go_ret
    exact ⟨rfl, Below.refl _ _⟩
  · have hz : ¬ (1200 : Int) < (s.size : Int) := by omega
    have HR := hide (refLine_any s w hG hF hK (by omega))
    clear hG hF hK
    go_enter Tryz.func3, Tryz.ntmps3
    go_wp2_with fail
    refine HR.out.mono ?_
    intro e w1 hR
    have hx : ∃ x v f, ((lineR s = .inl f ∧ f.1 ≠ 0 ∧ x = ln0) ∨ (lineR s = .inr x ∧ f = (0, -1))) ∧ CanF 0 x.rg ∧ (∃ A n c, v = .slice A n c) ∧ e = .returned (.tuple #[lnV x v, .agg #[.int .i64 f.1, .int .i64 f.2]]) ∧ OwnI w1 0 v (flatI x.rg) ∧ Below w.heap.size w w1 := by
      rcases hR with ⟨f, h1, h2, h3, h4⟩ | ⟨x, v, h1, h2, h3, h4, h5⟩
      · exact ⟨ln0, .slice none 0 0, f, .inl ⟨h1, h2, rfl⟩, trivial, ⟨_, _, _, rfl⟩, h3, ownI_nil _ _, h4⟩
      · obtain ⟨A, c, e⟩ := h4.len
        exact ⟨x, v, (0, -1), .inr ⟨h1, rfl⟩, h2, ⟨_, _, _, e⟩, h3, h4.mono (Nat.zero_le _), h5⟩
    obtain ⟨x, v, f, hor, hc, ⟨A3, n3, c3, rfl⟩, rfl, ho, hb1⟩ := hx
    have hP := parseLine_any s (((w1.alloc (.cells #[.int .i64 x.k, .string x.name, .int .i64 (x.ver 0), .int .i64 (x.ver 1), .int .i64 (x.ver 2), .string x.other, .slice A3 n3 c3] 27)).alloc (.cells #[.int .i64 f.1, .int .i64 f.2] 30))) (HG.out.below ((hb1.alloc hb1.size _).alloc (Nat.le_trans hb1.size (by simp)) _)) (by omega)
    have HC := Lib.hid hc
    have HP := hide hP
    have HOR := Lib.hid hor
    have K3 := hide ((Blk.new w1 27 #[.int .i64 x.k, .string x.name, .int .i64 (x.ver 0), .int .i64 (x.ver 1), .int .i64 (x.ver 2), .string x.other, .slice A3 n3 c3]).alloc (.cells #[.int .i64 f.1, .int .i64 f.2] 30))
    have K4 := hide (Blk.new (w1.alloc (.cells #[.int .i64 x.k, .string x.name, .int .i64 (x.ver 0), .int .i64 (x.ver 1), .int .i64 (x.ver 2), .string x.other, .slice A3 n3 c3] 27)) 30 #[.int .i64 f.1, .int .i64 f.2])
    have HO := hide (ho.below (((Below.refl w1.heap.size w1).alloc (Nat.le_refl _) (.cells #[.int .i64 x.k, .string x.name, .int .i64 (x.ver 0), .int .i64 (x.ver 1), .int .i64 (x.ver 2), .string x.other, .slice A3 n3 c3] 27)).alloc (by simp) (.cells #[.int .i64 f.1, .int .i64 f.2] 30)))
    have HB := hide ((hb1.alloc hb1.size (.cells #[.int .i64 x.k, .string x.name, .int .i64 (x.ver 0), .int .i64 (x.ver 1), .int .i64 (x.ver 2), .string x.other, .slice A3 n3 c3] 27)).alloc (Nat.le_trans hb1.size (by simp)) (.cells #[.int .i64 f.1, .int .i64 f.2] 30))
    rw [World.size_alloc] at K4
    unfold lnV lnC
    clear hP HR hR hor hc ho hb1
    go_wp2_with fail
    generalize World.alloc _ (.cells #[.int .i64 f.1, .int .i64 f.2] 30) = w2 at HP K3 K4 HO HB ⊢
    generalize hb4 : w1.heap.size + 1 = b4 at K4 ⊢
    generalize w1.heap.size = b3 at K3 hb4 ⊢
    clear hb4
    refine HP.out.mono ?_
    intro e w3 hR
    have hx : ∃ u er, (∃ A n c, u = .slice A n c) ∧ e = .returned (.tuple #[.agg #[.int .i64 x.k, .string x.name, .int .i64 (x.ver 0), .int .i64 (x.ver 1), .int .i64 (x.ver 2), .string x.other, u], er]) ∧ IsErr w3 er f ∧ OwnP w3 0 u x.rg ∧ Below w2.heap.size w2 w3 := by
      rcases hR with ⟨f', u, h1, h2, h3, h4, h5⟩ | ⟨x', v', h1, h2, h3, h4, h5⟩
      · rcases HOR.out with ⟨g1, g2, rfl⟩ | ⟨g1, g2⟩
        · rw [h1] at g1
          injection g1 with g1
          subst g1
          exact ⟨.slice none 0 0, u, ⟨_, _, _, rfl⟩, h3, h4, ownP_nil _ _, h5⟩
        · rw [h1] at g1; cases g1
      · rcases HOR.out with ⟨g1, g2, rfl⟩ | ⟨g1, g2⟩
        · rw [h1] at g1; cases g1
        · rw [h1] at g1
          injection g1 with g1
          subst g1
          obtain ⟨A, c, e⟩ := h4.len
          exact ⟨v', .nilIface, ⟨_, _, _, e⟩, h3, .inl ⟨g2, rfl⟩, h4.mono (Nat.zero_le _), h5⟩
    obtain ⟨u, er, ⟨A5, n5, c5, rfl⟩, rfl, hE, hou, hb3⟩ := hx
    have hal := (Below.refl w3.heap.size w3).alloc (Nat.le_refl _) (.cells #[.int .i64 x.k, .string x.name, .int .i64 (x.ver 0), .int .i64 (x.ver 1), .int .i64 (x.ver 2), .string x.other, .slice A5 n5 c5] 38)
    have HL := hide (show LlI w b3 b4 w3.heap.size x (.slice A3 n3 c3) (.slice A5 n5 c5) f er (w3.alloc (.cells #[.int .i64 x.k, .string x.name, .int .i64 (x.ver 0), .int .i64 (x.ver 1), .int .i64 (x.ver 2), .string x.other, .slice A5 n5 c5] 38)) from
      ⟨(K3.out.below hb3 K3.out.lt).alloc _, (K4.out.below hb3 K4.out.lt).alloc _, Blk.new w3 _ _, (HO.out.below hb3).below hal, hou.below hal, hE.below hal, (HB.out.trans (hb3.mono HB.out.size)).trans (hal.mono (Nat.le_trans HB.out.size hb3.size))⟩)
    clear hR HP K3 K4 HO HB hE hou hb3 hal HOR
    go_wp2_with fail
    generalize World.alloc _ (.cells #[.int .i64 x.k, .string x.name, .int .i64 (x.ver 0), .int .i64 (x.ver 1), .int .i64 (x.ver 2), .string x.other, .slice A5 n5 c5] 38) = w4 at HL ⊢
    generalize w3.heap.size = b5 at HL ⊢
    have HAT := hide (fun c : Calm w4 => at_anyE er f f c.val (HG.out.below (HL.out.below c.bel).bel).e (HL.out.below c.bel).er_)
    rw [atB_self] at HAT
    unfold faultV at HAT
    have HTX := hide (fun c : Calm w4 => rangeText_any (.slice A5 n5 c5) x.rg c.val (HG.out.below (HL.out.below c.bel).bel) (HL.out.below c.bel).ou HC.out)
    have HTY := hide (fun c : Calm w4 => refRangeText_any (.slice A3 n3 c3) x.rg c.val (HG.out.below (HL.out.below c.bel).bel) (HL.out.below c.bel).ov HC.out)
    unfold RgTxP at HTX HTY
    have a0 := fun c : Calm w4 => (c.cell (i := 0) HL.out.k3.lt).trans (HL.out.k3.cell 0)
    have a1 := fun c : Calm w4 => (c.cell (i := 1) HL.out.k3.lt).trans (HL.out.k3.cell 1)
    have a2 := fun c : Calm w4 => (c.cell (i := 2) HL.out.k3.lt).trans (HL.out.k3.cell 2)
    have a3 := fun c : Calm w4 => (c.cell (i := 3) HL.out.k3.lt).trans (HL.out.k3.cell 3)
    have a4 := fun c : Calm w4 => (c.cell (i := 4) HL.out.k3.lt).trans (HL.out.k3.cell 4)
    have a5 := fun c : Calm w4 => (c.cell (i := 5) HL.out.k3.lt).trans (HL.out.k3.cell 5)
    have a6 := fun c : Calm w4 => (c.cell (i := 6) HL.out.k3.lt).trans (HL.out.k3.cell 6)
    have b0 := fun c : Calm w4 => (c.cell (i := 0) HL.out.k4.lt).trans (HL.out.k4.cell 0)
    have b1 := fun c : Calm w4 => (c.cell (i := 1) HL.out.k4.lt).trans (HL.out.k4.cell 1)
    have c0 := fun c : Calm w4 => (c.cell (i := 0) HL.out.k5.lt).trans (HL.out.k5.cell 0)
    have c1 := fun c : Calm w4 => (c.cell (i := 1) HL.out.k5.lt).trans (HL.out.k5.cell 1)
    have c2 := fun c : Calm w4 => (c.cell (i := 2) HL.out.k5.lt).trans (HL.out.k5.cell 2)
    have c3' := fun c : Calm w4 => (c.cell (i := 3) HL.out.k5.lt).trans (HL.out.k5.cell 3)
    have c4 := fun c : Calm w4 => (c.cell (i := 4) HL.out.k5.lt).trans (HL.out.k5.cell 4)
    have c5' := fun c : Calm w4 => (c.cell (i := 5) HL.out.k5.lt).trans (HL.out.k5.cell 5)
    have c6 := fun c : Calm w4 => (c.cell (i := 6) HL.out.k5.lt).trans (HL.out.k5.cell 6)
    have HBE := hide HL.out.bel
    have ev := eqlVer_any (x.ver 0) (x.ver 1) (x.ver 2)
    clear HL
    refine wp_region_calm (by kernel_rfl) (by kernel_rfl) ?_
    repeat (go_big_quiet_step (fail))
    go_big_quiet_want
    go_big_quiet_op
    go_big_quiet_call ((go_at_call 11; refine (HAT.out _).mono ?_; rintro e w2 ⟨rfl, hb0⟩; exact ⟨rfl, Calm.on _ hb0⟩))
    repeat (go_big_quiet_step (fail))
    go_big_quiet_want
    go_big_quiet_op
    go_big_quiet_call ((go_at_call 12; refine (HTX.out _).mono ?_; rintro e w2 ⟨rfl, hb0⟩; exact ⟨rfl, Calm.on _ hb0⟩))
    repeat (go_big_quiet_step (fail))
    go_big_quiet_want
    go_big_quiet_op
    go_big_quiet_call ((go_at_call 13; refine (HTY.out _).mono ?_; rintro e w2 ⟨rfl, hb0⟩; exact ⟨rfl, Calm.on _ hb0⟩))
    repeat (go_big_quiet_step (fail))
    refine wpQuiet_nil ?_
    rintro _ ⟨cw, rfl⟩
    go_wp2
    go_ret
    exact ⟨ret_bool (by simp), HBE.out.trans (cw.bel.mono HBE.out.size)⟩
end Go.Proofs.YtmncoldaemcnlaaGreatDoor
