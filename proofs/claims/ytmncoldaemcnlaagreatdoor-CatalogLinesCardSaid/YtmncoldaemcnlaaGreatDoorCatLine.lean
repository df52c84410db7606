/-
  catalog.line, catalog.ParseLine.
-/
import Derived.Test.YtmncoldaemcnlaaGreatDoorRefLine
import Derived.Test.YtmncoldaemcnlaaGreatDoorCatLay
namespace Go.Proofs.YtmncoldaemcnlaaGreatDoor
open Go.RowKit
set_option maxRecDepth 100000

def CutP (s : ByteArray) (w : World) (e : Ending) (w' : World) : Prop := ∃ b, e = .returned (.tuple #[.string (wordS s), .string (tailS s), .bool b]) ∧ Below w.heap.size w w'
theorem cut_any (s : ByteArray) (w : World) (hG : GlobV w) (hs : s.size ≤ 21000) : Calls Tryz.prog 92 #[.string s, .string ⟨#[32]⟩] w (CutP s w) := by
  obtain ⟨m, hm⟩ := hG.mx
  refine (Tryz.strings_Cut s ⟨#[32]⟩ m w (by omega) hm).mono ?_
  rintro e w' ⟨rfl, n, rfl⟩
  exact ⟨_, rfl, below_drewN (Below.refl _ _) _⟩
def KiP (x : ByteArray) (w : World) (e : Ending) (w' : World) : Prop := ∃ i : Int, e = .returned (.int .i64 i) ∧ ((1 ≤ i ∧ i = (kindK x : Int) ∧ 1 ≤ kindK x) ∨ (i < 1 ∧ kindK x = 0)) ∧ w' = w
theorem kidx_any (x : ByteArray) (g : Nat) (w : World) (hk : Blk w g 9 #[.string ⟨#[]⟩, .string ⟨#[112, 97, 99, 107, 97, 103, 101]⟩, .string ⟨#[110, 101, 101, 100, 115]⟩, .string ⟨#[99, 108, 97, 115, 104, 101, 115]⟩, .string ⟨#[114, 111, 111, 116]⟩]) (c : Nat) :
    Calls Tryz.prog 93 #[.slice (some ⟨g, 0, none⟩) 5 c, .string x] w (KiP x w) := by
  refine (Tryz.slices_Index_string g 0 5 c kindB x w (by decide) (by decide) (fun j hj => ?_)).mono ?_
  · have h5 : j < 5 := hj
    rw [Nat.zero_add, hk.cell j]
    rcases (show j = 0 ∨ j = 1 ∨ j = 2 ∨ j = 3 ∨ j = 4 by omega) with rfl | rfl | rfl | rfl | rfl <;> rfl
  · rintro e w' ⟨rfl, rfl⟩
    exact ⟨_, rfl, kind_idx x, rfl⟩
/-- Where a line is being read: the result. -/
structure PxI (w : World) (cs : Array Value) (wr : World) : Prop where
  b2 : Blk wr w.heap.size 38 cs
  bel : Below w.heap.size w wr
section
variable {w wr wr' : World} {cs : Array Value}
theorem PxI.below (h : PxI w cs wr) (hb : Below wr.heap.size wr wr') : PxI w cs wr' := ⟨h.b2.below hb h.b2.lt, h.bel.trans (hb.mono h.bel.size)⟩
theorem PxI.set_ (h : PxI w cs wr) (i : Nat) (u : Value) : PxI w (cs.setIfInBounds i u) (wr.setCell ⟨w.heap.size, i, none⟩ u) := ⟨h.b2.set_ i u, h.bel.setCell (p := ⟨w.heap.size, i, none⟩) (Nat.le_refl _) u⟩
theorem PxI.all {x0 x1 x2 x3 x4 x5 x6 : Value} (h : PxI w #[x0, x1, x2, x3, x4, x5, x6] wr) (a0 a1 a2 a3 a4 a5 a6 : Value) :
    PxI w #[a0, a1, a2, a3, a4, a5, a6] (((((((wr.setCell ⟨w.heap.size, 0, none⟩ a0).setCell ⟨w.heap.size, 1, none⟩ a1).setCell ⟨w.heap.size, 2, none⟩ a2).setCell ⟨w.heap.size, 3, none⟩ a3).setCell ⟨w.heap.size, 4, none⟩ a4).setCell ⟨w.heap.size, 5, none⟩ a5).setCell ⟨w.heap.size, 6, none⟩ a6) ∧
    Fr (fun k => k = w.heap.size) wr (((((((wr.setCell ⟨w.heap.size, 0, none⟩ a0).setCell ⟨w.heap.size, 1, none⟩ a1).setCell ⟨w.heap.size, 2, none⟩ a2).setCell ⟨w.heap.size, 3, none⟩ a3).setCell ⟨w.heap.size, 4, none⟩ a4).setCell ⟨w.heap.size, 5, none⟩ a5).setCell ⟨w.heap.size, 6, none⟩ a6) :=
  have hh := LxI.fr7 (fun k => k = w.heap.size) h.bel (g := w.heap.size) rfl (Nat.le_refl _) a0 a1 a2 a3 a4 a5 a6
  ⟨⟨blk7_set h.b2 a0 a1 a2 a3 a4 a5 a6, hh.2⟩, hh.1⟩
end
theorem isErr_fr {w w' : World} {g : Nat} {cs : Array Value} {u : Value} {f : Int × Int} (h : IsErr w u f) (hk : Blk w g 38 cs) (hf : Fr (fun k => k = g) w w') : IsErr w' u f := by
  rcases h with h | h | ⟨b, h1, h2, h3, h4, h5, h6⟩
  · exact .inl h
  · exact .inr (.inl h)
  · exact .inr (.inr ⟨b, Nat.lt_of_lt_of_le h1 hf.size, h2, h3, h4, h5, h6.fr hf (h6.ne_ hk (by decide))⟩)
/-- What the program's line answers. -/
def CatLineP (s : ByteArray) (w : World) (e : Ending) (w' : World) : Prop :=
  (∃ f u k n a b c o A i j, lineR s = .inl f ∧ f.1 ≠ 0 ∧ e = .returned (.tuple #[.agg #[.int .i64 k, .string n, .int .i64 a, .int .i64 b, .int .i64 c, .string o, .slice A i j], u]) ∧ IsErr w' u f ∧ Below w.heap.size w w') ∨
  ∃ x v, lineR s = .inr x ∧ CanF 0 x.rg ∧ e = .returned (.tuple #[.agg (lnC x v), .nilIface]) ∧ OwnP w' w.heap.size v x.rg ∧ Below w.heap.size w w'
set_option maxHeartbeats 8000000 in
theorem catLine_any (s : ByteArray) (w : World) (hG : GlobV w) (hs : s.size ≤ 21000) : Calls Tryz.prog 46 #[.string s] w (CatLineP s w) := by
  have HG := hide hG
  have HX0 := hide (show PxI w #[.int .i64 0, .string ⟨#[]⟩, .int .i64 0, .int .i64 0, .int .i64 0, .string ⟨#[]⟩, .slice none 0 0] (w.alloc (.cells #[.int .i64 0, .string ⟨#[]⟩, .int .i64 0, .int .i64 0, .int .i64 0, .string ⟨#[]⟩, .slice none 0 0] 38)) from ⟨Blk.new w _ _, (Below.refl _ _).alloc (Nat.le_refl _) _⟩)
  have hts := tailS_size s
  have htt := tailS_size (tailS s)
  have htw := wordS_size (tailS (tailS s))
  have ht3 := tailS_size (tailS (tailS s))
  have ht4 := tailS_size (tailS (tailS (tailS s)))
  have hKL := kindK_le (wordS s)
  clear hG
  go_enter Tryz.func46, Tryz.ntmps46
  go_wp2_with fail
  generalize (w.alloc (.cells #[.int .i64 0, .string ⟨#[]⟩, .int .i64 0, .int .i64 0, .int .i64 0, .string ⟨#[]⟩, .slice none 0 0] 38)) = w0 at HX0 ⊢
  refine (cut_any s w0 (HG.out.below HX0.out.bel) hs).mono ?_
  rintro e w1 ⟨b1, rfl, hb1⟩
  have HX1 := hide (HX0.out.below hb1)
  have HX2 := hide (HX1.out.below ((Below.refl w1.heap.size w1).alloc (Nat.le_refl _) (.cells #[.string ⟨#[]⟩, .string ⟨#[112, 97, 99, 107, 97, 103, 101]⟩, .string ⟨#[110, 101, 101, 100, 115]⟩, .string ⟨#[99, 108, 97, 115, 104, 101, 115]⟩, .string ⟨#[114, 111, 111, 116]⟩] 9)))
  have HKB := hide (Blk.new w1 9 #[.string ⟨#[]⟩, .string ⟨#[112, 97, 99, 107, 97, 103, 101]⟩, .string ⟨#[110, 101, 101, 100, 115]⟩, .string ⟨#[99, 108, 97, 115, 104, 101, 115]⟩, .string ⟨#[114, 111, 111, 116]⟩])
  clear HX0 HX1 hb1
  go_wp2_with fail
  generalize World.alloc _ (.cells #[.string ⟨#[]⟩, .string ⟨#[112, 97, 99, 107, 97, 103, 101]⟩, .string ⟨#[110, 101, 101, 100, 115]⟩, .string ⟨#[99, 108, 97, 115, 104, 101, 115]⟩, .string ⟨#[114, 111, 111, 116]⟩] 9) = w2 at HX2 HKB ⊢
  generalize w1.heap.size = gs at HKB ⊢
  refine (kidx_any (wordS s) gs w2 HKB.out 5).mono ?_
  rintro e wb ⟨ki, rfl, hki, rfl⟩
  have x0 : wb.cell? ⟨w.heap.size, 0, none⟩ = some (.int .i64 0) := HX2.out.b2.cell 0
  have f0 := HX2.out.b2.frozen 0
  have HX3 := hide (show PxI w #[.int .i64 ki, .string ⟨#[]⟩, .int .i64 0, .int .i64 0, .int .i64 0, .string ⟨#[]⟩, .slice none 0 0] _ from HX2.out.set_ 0 (.int .i64 ki))
  clear HKB
  rcases hki with ⟨h1, rfl, hK1⟩ | ⟨h1, hK0⟩
  · have hK0 : ¬ kindK (wordS s) = 0 := by omega
    clear h1
    have h1 : ¬ (kindK (wordS s) : Int) < 1 := by omega
    go_wp2_with fail
    generalize World.setCell _ ⟨w.heap.size, 0, none⟩ (.int .i64 (kindK (wordS s) : Int)) = w3 at HX3 ⊢
    clear x0 f0 HX2
    refine (cut_any (tailS s) w3 (HG.out.below HX3.out.bel) (by omega)).mono ?_
    rintro e w4 ⟨b4, rfl, hb4⟩
    have HX4 := hide (HX3.out.below hb4)
    have y0 : w4.cell? ⟨w.heap.size, 0, none⟩ = some (.int .i64 (kindK (wordS s) : Int)) := HX4.out.b2.cell 0
    have y1 : w4.cell? ⟨w.heap.size, 1, none⟩ = some (.string ⟨#[]⟩) := HX4.out.b2.cell 1
    have f1 := HX4.out.b2.frozen 1
    clear HX3 hb4 h1
    by_cases hK4 : kindK (wordS s) = 4
    · rw [hK4] at y0 HX4
      have HE := Lib.hid (show ∀ f, BothP (tailS (tailS s)) f → lineR s = .inl f from fun f h => by unfold lineR; simp only [hK4]; rw [if_neg (by decide), if_pos trivial, rg_bad h])
      have HO := Lib.hid (show ∀ l, (tailS (tailS s)).size ≤ 1000 → rangeR (tailS (tailS s)) = .inr l → lineR s = .inr ⟨4, wordS (tailS s), fun _ => 0, ByteArray.empty, l⟩ from fun l h1 h2 => by unfold lineR; simp only [hK4]; rw [if_neg (by decide), if_pos trivial, rg_ok h1 h2])
      have HXb := hide (show PxI w #[.int .i64 4, .string (wordS (tailS s)), .int .i64 0, .int .i64 0, .int .i64 0, .string ⟨#[]⟩, .slice none 0 0] _ from HX4.out.set_ 1 (.string (wordS (tailS s))))
      clear hK4 hK0 hKL HX4 hK1
      go_wp2_with fail
      generalize World.setCell _ ⟨w.heap.size, 1, none⟩ (.string (wordS (tailS s))) = wq at HXb ⊢
      clear y0 y1 f1
      have HRP := hide (spParse_any (tailS (tailS s)) _ (HG.out.below HXb.out.bel) (by omega))
      have HLT := Lib.hid (show w.heap.size < wq.heap.size from HXb.out.b2.lt)
      refine HRP.out.mono ?_
      rintro e w5 (⟨u, ⟨g1, g2⟩, hf, hf0, rfl, hE, hb5⟩ | ⟨v, l, hsl, hr, hc, rfl, ho, hb5⟩)
      · have HER := Lib.hid (HE.out _ (show BothP (tailS (tailS s)) (g1, g2) from hf))
        have HF0 := Lib.hid hf0
        have HX5 := hide (HXb.out.below hb5)
        have HIE := hide (isErr_fr hE HX5.out.b2 ((Fr.refl (fun k => k = w.heap.size) w5).set_ (p := ⟨w.heap.size, 6, none⟩) rfl (.slice none 0 0)))
        have HX6 := hide (show PxI w #[.int .i64 4, .string (wordS (tailS s)), .int .i64 0, .int .i64 0, .int .i64 0, .string ⟨#[]⟩, .slice none 0 0] _ from HX5.out.set_ 6 (.slice none 0 0))
        clear HRP hf hf0 hb5 hE
        obtain ⟨⟨c0, c1, c2, c3, c4, c5, c6⟩, q0, q1, q2, q3, q4, q5, q6⟩ := blk7 HX5.out.b2

        go_wp2_with fail
        clear c0 q0 c1 q1 c2 q2 c3 q3 c4 q4 c5 q5 c6 q6
        have hh := HX6.out.all (.int .i64 4) (.string (wordS (tailS s))) (.int .i64 0) (.int .i64 0) (.int .i64 0) (.string ⟨#[]⟩) (.slice none 0 0)
        obtain ⟨h7, hfr⟩ := hh
        have hIE := isErr_fr HIE.out HX6.out.b2 hfr
        generalize World.setCell _ ⟨w.heap.size, 6, none⟩ (.slice none 0 0) = W at h7 hfr hIE ⊢
        obtain ⟨⟨n0, n1, n2, n3, n4, n5, n6⟩, _⟩ := blk7 h7.b2
        have hbe := h7.bel
        exact bodyPost_ret (v := .tuple #[.agg #[.int .i64 4, .string (wordS (tailS s)), .int .i64 0, .int .i64 0, .int .i64 0, .string ⟨#[]⟩, .slice none 0 0], u]) (by simp [results, Tryz.results46, go_sem, n0, n1, n2, n3, n4, n5, n6]) rfl (.inl ⟨(g1, g2), u, _, _, _, _, _, _, _, _, _, HER.out, HF0.out, rfl, hIE, hbe⟩)
      · have HOK := Lib.hid (HO.out _ hsl hr)
        have HC := Lib.hid hc
        obtain ⟨A5, c5, rfl⟩ := ho.len
        have HX5 := hide (HXb.out.below hb5)
        have HX6 := hide (show PxI w #[.int .i64 4, .string (wordS (tailS s)), .int .i64 0, .int .i64 0, .int .i64 0, .string ⟨#[]⟩, .slice A5 l.length c5] _ from HX5.out.set_ 6 (.slice A5 l.length c5))
        have HOX := hide (ho.fr ((Fr.refl (fun k => k = w.heap.size) w5).set_ (p := ⟨w.heap.size, 6, none⟩) rfl (.slice A5 l.length c5)) (fun k hk e => by have := HLT.out; omega))
        clear HRP hc hsl hr hb5 ho
        obtain ⟨⟨c0, c1, c2, c3, c4, c5, c6⟩, q0, q1, q2, q3, q4, q5, q6⟩ := blk7 HX5.out.b2

        go_wp2_with fail
        clear c0 q0 c1 q1 c2 q2 c3 q3 c4 q4 c5 q5 c6 q6
        have hh := HX6.out.all (.int .i64 4) (.string (wordS (tailS s))) (.int .i64 0) (.int .i64 0) (.int .i64 0) (.string ⟨#[]⟩) (.slice A5 l.length c5)
        obtain ⟨h7, hfr⟩ := hh
        have hOX := HOX.out.fr hfr (fun k hk e => by have := HLT.out; omega)
        generalize World.setCell _ ⟨w.heap.size, 6, none⟩ (.slice A5 l.length c5) = W at h7 hfr hOX ⊢
        obtain ⟨⟨n0, n1, n2, n3, n4, n5, n6⟩, _⟩ := blk7 h7.b2
        have hbe := h7.bel
        exact bodyPost_ret (v := .tuple #[.agg #[.int .i64 4, .string (wordS (tailS s)), .int .i64 0, .int .i64 0, .int .i64 0, .string ⟨#[]⟩, .slice A5 l.length c5], .nilIface]) (by simp [results, Tryz.results46, go_sem, n0, n1, n2, n3, n4, n5, n6]) rfl (.inr ⟨_, _, HOK.out, HC.out, rfl, hOX.mono (by have := HLT.out; omega), hbe⟩)
    · have hk4 : ((kindK (wordS s) : Int) == 4) = false := by rw [beq_eq_false_iff_ne]; omega
      have HXb := hide (show PxI w #[.int .i64 (kindK (wordS s) : Int), .string (wordS (tailS s)), .int .i64 0, .int .i64 0, .int .i64 0, .string ⟨#[]⟩, .slice none 0 0] _ from HX4.out.set_ 1 (.string (wordS (tailS s))))
      have HLR := Lib.hid (show lineR s = if verE (wordS (tailS (tailS s))) ≠ 0 then .inl (verE (wordS (tailS (tailS s))), -1) else lineR2 (kindK (wordS s)) (wordS (tailS s)) (verV (wordS (tailS (tailS s)))) (tailS (tailS (tailS s))) from by
        unfold lineR
        simp only []
        rw [if_neg hK0, if_neg hK4])
      clear HX4
      go_wp2_with fail
      generalize World.setCell _ ⟨w.heap.size, 1, none⟩ (.string (wordS (tailS s))) = wq at HXb ⊢
      clear y0 y1 f1
      refine (cut_any (tailS (tailS s)) wq (HG.out.below HXb.out.bel) (by omega)).mono ?_
      rintro e w6 ⟨b6, rfl, hb6⟩
      have HXc := hide (HXb.out.below hb6)
      have HRV := hide (verParse_any (wordS (tailS (tailS s))) w6 (HG.out.below HXc.out.bel) (by omega))
      unfold VerP verArr at HRV
      clear HXb hb6
      generalize wordS (tailS (tailS s)) = vw at HRV HLR htw ⊢
      go_wp2_with fail
      refine HRV.out.mono ?_
      rintro e wc ⟨er, rfl, hE, hbc⟩
      have HXd := hide (HXc.out.below hbc)
      clear HRV hbc HXc
      obtain ⟨⟨c0, c1, c2, c3, c4, c5, c6⟩, q0, q1, q2, q3, q4, q5, q6⟩ := blk7 HXd.out.b2
      have HXf := hide (show PxI w #[.int .i64 (kindK (wordS s) : Int), .string (wordS (tailS s)), .int .i64 (verV vw 0), .int .i64 (verV vw 1), .int .i64 (verV vw 2), .string ⟨#[]⟩, .slice none 0 0] _ from ((HXd.out.set_ 2 (.int .i64 (verV vw 0))).set_ 3 (.int .i64 (verV vw 1))).set_ 4 (.int .i64 (verV vw 2)))
      by_cases hE0 : verE vw = 0
      · obtain rfl : er = .nilIface := by
          rcases hE with ⟨_, h⟩ | ⟨_, h, _⟩ | ⟨_, _, h, _⟩
          · exact h
          · rw [hE0] at h; exact absurd h (by decide)
          · rw [hE0] at h; exact absurd h (by decide)
        have hL2 := HLR.out
        rw [if_neg (by simpa using hE0)] at hL2
        have HLS := Lib.hid hL2
        clear HLR hE0 hL2 hE HXd
        by_cases hK1 : kindK (wordS s) = 1
        · rw [hK1] at c0 HXf HLS
          clear hk4 hK4 hK0
          by_cases hr0 : (tailS (tailS (tailS s))).toList = []
          · have hr2 : (tailS (tailS (tailS s))).toList.isEmpty = true := by rw [hr0]; rfl
            have hr1 : (!(tailS (tailS (tailS s))).toList.isEmpty) = false := by rw [hr0]; rfl
            have HLT := Lib.hid (show lineR s = .inr ⟨1, wordS (tailS s), verV vw, ByteArray.empty, []⟩ from by
              rw [HLS.out]
              have e9 : tailS (tailS (tailS s)) = ByteArray.empty := (bytes_back [] _ (by rw [← ByteArray.toList_eq, hr0])).symm
              unfold lineR2
              rw [if_pos rfl, if_pos e9])
            clear HLS
            go_wp2_with fail
            clear c0 q0 c1 q1 c2 q2 c3 q3 c4 q4 c5 q5 c6 q6
            have hh := HXf.out.all (.int .i64 1) (.string (wordS (tailS s))) (.int .i64 (verV vw 0)) (.int .i64 (verV vw 1)) (.int .i64 (verV vw 2)) (.string ⟨#[]⟩) (.slice none 0 0)
            obtain ⟨h7, hfr⟩ := hh
            generalize World.setCell _ ⟨w.heap.size, 6, none⟩ (.slice none 0 0) = W at h7 hfr ⊢
            obtain ⟨⟨n0, n1, n2, n3, n4, n5, n6⟩, _⟩ := blk7 h7.b2
            have hbe := h7.bel
            exact bodyPost_ret (v := .tuple #[.agg #[.int .i64 1, .string (wordS (tailS s)), .int .i64 (verV vw 0), .int .i64 (verV vw 1), .int .i64 (verV vw 2), .string ⟨#[]⟩, .slice none 0 0], .nilIface]) (by simp [results, Tryz.results46, go_sem, n0, n1, n2, n3, n4, n5, n6]) rfl (.inr ⟨_, _, HLT.out, trivial, rfl, ownP_nil _ _, hbe⟩)
          · have hr2 : (tailS (tailS (tailS s))).toList.isEmpty = false := by simpa using hr0
            have hr1 : (!(tailS (tailS (tailS s))).toList.isEmpty) = true := by rw [hr2]; rfl
            have HLT := Lib.hid (show lineR s = .inl (3, -1) from by
              rw [HLS.out]
              unfold lineR2
              rw [if_pos rfl, if_neg]
              intro e9
              exact hr0 (by rw [e9, ByteArray.toList_eq]; rfl))
            clear HLS
            go_wp2_with fail
            clear c0 q0 c1 q1 c2 q2 c3 q3 c4 q4 c5 q5 c6 q6
            have hh := HXf.out.all (.int .i64 0) (.string ⟨#[]⟩) (.int .i64 0) (.int .i64 0) (.int .i64 0) (.string ⟨#[]⟩) (.slice none 0 0)
            obtain ⟨h7, hfr⟩ := hh
            generalize World.setCell _ ⟨w.heap.size, 6, none⟩ (.slice none 0 0) = W at h7 hfr ⊢
            obtain ⟨⟨n0, n1, n2, n3, n4, n5, n6⟩, _⟩ := blk7 h7.b2
            have hbe := h7.bel
            exact bodyPost_ret (v := .tuple #[.agg #[.int .i64 0, .string ⟨#[]⟩, .int .i64 0, .int .i64 0, .int .i64 0, .string ⟨#[]⟩, .slice none 0 0], .iface 28 (.int .i64 3)]) (by simp [results, Tryz.results46, go_sem, n0, n1, n2, n3, n4, n5, n6]) rfl (.inl ⟨(3, -1), _, _, _, _, _, _, _, _, _, _, HLT.out, by decide, rfl, .inr (.inl ⟨rfl, by decide, by decide, rfl⟩), hbe⟩)
        · have hk1 : ((kindK (wordS s) : Int) == 1) = false := by rw [beq_eq_false_iff_ne]; omega
          have HE := Lib.hid (show ∀ f, BothP (tailS (tailS (tailS (tailS s)))) f → lineR s = .inl f from fun f h => by
            rw [HLS.out]
            unfold lineR2
            rw [if_neg hK1, rg_bad h])
          have HO := Lib.hid (show ∀ l, (tailS (tailS (tailS (tailS s)))).size ≤ 1000 → rangeR (tailS (tailS (tailS (tailS s)))) = .inr l → lineR s = .inr ⟨(kindK (wordS s) : Int), wordS (tailS s), verV vw, wordS (tailS (tailS (tailS s))), l⟩ from fun l h1 h2 => by
            rw [HLS.out]
            unfold lineR2
            rw [if_neg hK1, rg_ok h1 h2])
          clear HLS
          have hor : kindK (wordS s) = 2 ∨ kindK (wordS s) = 3 := by omega
          rcases hor with h2 | h2
          · have hk2 : ((kindK (wordS s) : Int) == 2) = true := by rw [h2]; rfl
            clear h2
            go_wp2_with fail
            generalize World.setCell _ ⟨w.heap.size, 4, none⟩ (.int .i64 (verV vw 2)) = wz at HXf ⊢
            clear c0 q0 c1 q1 c2 q2 c3 q3 c4 q4 c5 q5 c6 q6
            refine (cut_any (tailS (tailS (tailS s))) wz (HG.out.below HXf.out.bel) (by omega)).mono ?_
            rintro e wd ⟨bd, rfl, hbd⟩
            have HXg := hide (HXf.out.below hbd)
            have y5 : wd.cell? ⟨w.heap.size, 5, none⟩ = some (.string ⟨#[]⟩) := HXg.out.b2.cell 5
            have f5 := HXg.out.b2.frozen 5
            have HXh := hide (show PxI w #[.int .i64 (kindK (wordS s) : Int), .string (wordS (tailS s)), .int .i64 (verV vw 0), .int .i64 (verV vw 1), .int .i64 (verV vw 2), .string (wordS (tailS (tailS (tailS s)))), .slice none 0 0] _ from HXg.out.set_ 5 (.string (wordS (tailS (tailS (tailS s))))))
            clear hbd HXf HXg
            go_wp2_with fail
            generalize World.setCell _ ⟨w.heap.size, 5, none⟩ (.string (wordS (tailS (tailS (tailS s))))) = wq at HXh ⊢
            clear y5 f5
            have HRP := hide (spParse_any (tailS (tailS (tailS (tailS s)))) _ (HG.out.below HXh.out.bel) (by omega))
            have HLT := Lib.hid (show w.heap.size < wq.heap.size from HXh.out.b2.lt)
            refine HRP.out.mono ?_
            rintro e w5 (⟨u, ⟨g1, g2⟩, hf, hf0, rfl, hE, hb5⟩ | ⟨v, l, hsl, hr, hc, rfl, ho, hb5⟩)
            · have HER := Lib.hid (HE.out _ (show BothP (tailS (tailS (tailS (tailS s)))) (g1, g2) from hf))
              have HF0 := Lib.hid hf0
              have HX5 := hide (HXh.out.below hb5)
              have HIE := hide (isErr_fr hE HX5.out.b2 ((Fr.refl (fun k => k = w.heap.size) w5).set_ (p := ⟨w.heap.size, 6, none⟩) rfl (.slice none 0 0)))
              have HX6 := hide (show PxI w #[.int .i64 (kindK (wordS s) : Int), .string (wordS (tailS s)), .int .i64 (verV vw 0), .int .i64 (verV vw 1), .int .i64 (verV vw 2), .string (wordS (tailS (tailS (tailS s)))), .slice none 0 0] _ from HX5.out.set_ 6 (.slice none 0 0))
              clear HRP hf hf0 hb5 hE
              obtain ⟨⟨c0, c1, c2, c3, c4, c5, c6⟩, q0, q1, q2, q3, q4, q5, q6⟩ := blk7 HX5.out.b2

              go_wp2_with fail
              clear c0 q0 c1 q1 c2 q2 c3 q3 c4 q4 c5 q5 c6 q6
              have hh := HX6.out.all (.int .i64 (kindK (wordS s) : Int)) (.string (wordS (tailS s))) (.int .i64 (verV vw 0)) (.int .i64 (verV vw 1)) (.int .i64 (verV vw 2)) (.string (wordS (tailS (tailS (tailS s))))) (.slice none 0 0)
              obtain ⟨h7, hfr⟩ := hh
              have hIE := isErr_fr HIE.out HX6.out.b2 hfr
              generalize World.setCell _ ⟨w.heap.size, 6, none⟩ (.slice none 0 0) = W at h7 hfr hIE ⊢
              obtain ⟨⟨n0, n1, n2, n3, n4, n5, n6⟩, _⟩ := blk7 h7.b2
              have hbe := h7.bel
              exact bodyPost_ret (v := .tuple #[.agg #[.int .i64 (kindK (wordS s) : Int), .string (wordS (tailS s)), .int .i64 (verV vw 0), .int .i64 (verV vw 1), .int .i64 (verV vw 2), .string (wordS (tailS (tailS (tailS s)))), .slice none 0 0], u]) (by simp [results, Tryz.results46, go_sem, n0, n1, n2, n3, n4, n5, n6]) rfl (.inl ⟨(g1, g2), u, _, _, _, _, _, _, _, _, _, HER.out, HF0.out, rfl, hIE, hbe⟩)
            · have HOK := Lib.hid (HO.out _ hsl hr)
              have HC := Lib.hid hc
              obtain ⟨A5, c5, rfl⟩ := ho.len
              have HX5 := hide (HXh.out.below hb5)
              have HX6 := hide (show PxI w #[.int .i64 (kindK (wordS s) : Int), .string (wordS (tailS s)), .int .i64 (verV vw 0), .int .i64 (verV vw 1), .int .i64 (verV vw 2), .string (wordS (tailS (tailS (tailS s)))), .slice A5 l.length c5] _ from HX5.out.set_ 6 (.slice A5 l.length c5))
              have HOX := hide (ho.fr ((Fr.refl (fun k => k = w.heap.size) w5).set_ (p := ⟨w.heap.size, 6, none⟩) rfl (.slice A5 l.length c5)) (fun k hk e => by have := HLT.out; omega))
              clear HRP hc hsl hr hb5 ho
              obtain ⟨⟨c0, c1, c2, c3, c4, c5, c6⟩, q0, q1, q2, q3, q4, q5, q6⟩ := blk7 HX5.out.b2

              go_wp2_with fail
              clear c0 q0 c1 q1 c2 q2 c3 q3 c4 q4 c5 q5 c6 q6
              have hh := HX6.out.all (.int .i64 (kindK (wordS s) : Int)) (.string (wordS (tailS s))) (.int .i64 (verV vw 0)) (.int .i64 (verV vw 1)) (.int .i64 (verV vw 2)) (.string (wordS (tailS (tailS (tailS s))))) (.slice A5 l.length c5)
              obtain ⟨h7, hfr⟩ := hh
              have hOX := HOX.out.fr hfr (fun k hk e => by have := HLT.out; omega)
              generalize World.setCell _ ⟨w.heap.size, 6, none⟩ (.slice A5 l.length c5) = W at h7 hfr hOX ⊢
              obtain ⟨⟨n0, n1, n2, n3, n4, n5, n6⟩, _⟩ := blk7 h7.b2
              have hbe := h7.bel
              exact bodyPost_ret (v := .tuple #[.agg #[.int .i64 (kindK (wordS s) : Int), .string (wordS (tailS s)), .int .i64 (verV vw 0), .int .i64 (verV vw 1), .int .i64 (verV vw 2), .string (wordS (tailS (tailS (tailS s)))), .slice A5 l.length c5], .nilIface]) (by simp [results, Tryz.results46, go_sem, n0, n1, n2, n3, n4, n5, n6]) rfl (.inr ⟨_, _, HOK.out, HC.out, rfl, hOX.mono (by have := HLT.out; omega), hbe⟩)
          · have hk2 : ((kindK (wordS s) : Int) == 2) = false := by rw [h2]; rfl
            have hk3 : ((kindK (wordS s) : Int) == 3) = true := by rw [h2]; rfl
            clear h2
            go_wp2_with fail
            generalize World.setCell _ ⟨w.heap.size, 4, none⟩ (.int .i64 (verV vw 2)) = wz at HXf ⊢
            clear c0 q0 c1 q1 c2 q2 c3 q3 c4 q4 c5 q5 c6 q6
            refine (cut_any (tailS (tailS (tailS s))) wz (HG.out.below HXf.out.bel) (by omega)).mono ?_
            rintro e wd ⟨bd, rfl, hbd⟩
            have HXg := hide (HXf.out.below hbd)
            have y5 : wd.cell? ⟨w.heap.size, 5, none⟩ = some (.string ⟨#[]⟩) := HXg.out.b2.cell 5
            have f5 := HXg.out.b2.frozen 5
            have HXh := hide (show PxI w #[.int .i64 (kindK (wordS s) : Int), .string (wordS (tailS s)), .int .i64 (verV vw 0), .int .i64 (verV vw 1), .int .i64 (verV vw 2), .string (wordS (tailS (tailS (tailS s)))), .slice none 0 0] _ from HXg.out.set_ 5 (.string (wordS (tailS (tailS (tailS s))))))
            clear hbd HXf HXg
            go_wp2_with fail
            generalize World.setCell _ ⟨w.heap.size, 5, none⟩ (.string (wordS (tailS (tailS (tailS s))))) = wq at HXh ⊢
            clear y5 f5
            have HRP := hide (spParse_any (tailS (tailS (tailS (tailS s)))) _ (HG.out.below HXh.out.bel) (by omega))
            have HLT := Lib.hid (show w.heap.size < wq.heap.size from HXh.out.b2.lt)
            refine HRP.out.mono ?_
            rintro e w5 (⟨u, ⟨g1, g2⟩, hf, hf0, rfl, hE, hb5⟩ | ⟨v, l, hsl, hr, hc, rfl, ho, hb5⟩)
            · have HER := Lib.hid (HE.out _ (show BothP (tailS (tailS (tailS (tailS s)))) (g1, g2) from hf))
              have HF0 := Lib.hid hf0
              have HX5 := hide (HXh.out.below hb5)
              have HIE := hide (isErr_fr hE HX5.out.b2 ((Fr.refl (fun k => k = w.heap.size) w5).set_ (p := ⟨w.heap.size, 6, none⟩) rfl (.slice none 0 0)))
              have HX6 := hide (show PxI w #[.int .i64 (kindK (wordS s) : Int), .string (wordS (tailS s)), .int .i64 (verV vw 0), .int .i64 (verV vw 1), .int .i64 (verV vw 2), .string (wordS (tailS (tailS (tailS s)))), .slice none 0 0] _ from HX5.out.set_ 6 (.slice none 0 0))
              clear HRP hf hf0 hb5 hE
              obtain ⟨⟨c0, c1, c2, c3, c4, c5, c6⟩, q0, q1, q2, q3, q4, q5, q6⟩ := blk7 HX5.out.b2

              go_wp2_with fail
              clear c0 q0 c1 q1 c2 q2 c3 q3 c4 q4 c5 q5 c6 q6
              have hh := HX6.out.all (.int .i64 (kindK (wordS s) : Int)) (.string (wordS (tailS s))) (.int .i64 (verV vw 0)) (.int .i64 (verV vw 1)) (.int .i64 (verV vw 2)) (.string (wordS (tailS (tailS (tailS s))))) (.slice none 0 0)
              obtain ⟨h7, hfr⟩ := hh
              have hIE := isErr_fr HIE.out HX6.out.b2 hfr
              generalize World.setCell _ ⟨w.heap.size, 6, none⟩ (.slice none 0 0) = W at h7 hfr hIE ⊢
              obtain ⟨⟨n0, n1, n2, n3, n4, n5, n6⟩, _⟩ := blk7 h7.b2
              have hbe := h7.bel
              exact bodyPost_ret (v := .tuple #[.agg #[.int .i64 (kindK (wordS s) : Int), .string (wordS (tailS s)), .int .i64 (verV vw 0), .int .i64 (verV vw 1), .int .i64 (verV vw 2), .string (wordS (tailS (tailS (tailS s)))), .slice none 0 0], u]) (by simp [results, Tryz.results46, go_sem, n0, n1, n2, n3, n4, n5, n6]) rfl (.inl ⟨(g1, g2), u, _, _, _, _, _, _, _, _, _, HER.out, HF0.out, rfl, hIE, hbe⟩)
            · have HOK := Lib.hid (HO.out _ hsl hr)
              have HC := Lib.hid hc
              obtain ⟨A5, c5, rfl⟩ := ho.len
              have HX5 := hide (HXh.out.below hb5)
              have HX6 := hide (show PxI w #[.int .i64 (kindK (wordS s) : Int), .string (wordS (tailS s)), .int .i64 (verV vw 0), .int .i64 (verV vw 1), .int .i64 (verV vw 2), .string (wordS (tailS (tailS (tailS s)))), .slice A5 l.length c5] _ from HX5.out.set_ 6 (.slice A5 l.length c5))
              have HOX := hide (ho.fr ((Fr.refl (fun k => k = w.heap.size) w5).set_ (p := ⟨w.heap.size, 6, none⟩) rfl (.slice A5 l.length c5)) (fun k hk e => by have := HLT.out; omega))
              clear HRP hc hsl hr hb5 ho
              obtain ⟨⟨c0, c1, c2, c3, c4, c5, c6⟩, q0, q1, q2, q3, q4, q5, q6⟩ := blk7 HX5.out.b2

              go_wp2_with fail
              clear c0 q0 c1 q1 c2 q2 c3 q3 c4 q4 c5 q5 c6 q6
              have hh := HX6.out.all (.int .i64 (kindK (wordS s) : Int)) (.string (wordS (tailS s))) (.int .i64 (verV vw 0)) (.int .i64 (verV vw 1)) (.int .i64 (verV vw 2)) (.string (wordS (tailS (tailS (tailS s))))) (.slice A5 l.length c5)
              obtain ⟨h7, hfr⟩ := hh
              have hOX := HOX.out.fr hfr (fun k hk e => by have := HLT.out; omega)
              generalize World.setCell _ ⟨w.heap.size, 6, none⟩ (.slice A5 l.length c5) = W at h7 hfr hOX ⊢
              obtain ⟨⟨n0, n1, n2, n3, n4, n5, n6⟩, _⟩ := blk7 h7.b2
              have hbe := h7.bel
              exact bodyPost_ret (v := .tuple #[.agg #[.int .i64 (kindK (wordS s) : Int), .string (wordS (tailS s)), .int .i64 (verV vw 0), .int .i64 (verV vw 1), .int .i64 (verV vw 2), .string (wordS (tailS (tailS (tailS s)))), .slice A5 l.length c5], .nilIface]) (by simp [results, Tryz.results46, go_sem, n0, n1, n2, n3, n4, n5, n6]) rfl (.inr ⟨_, _, HOK.out, HC.out, rfl, hOX.mono (by have := HLT.out; omega), hbe⟩)
      · obtain rfl : er = .iface 28 (.int .i64 (verE vw)) := by
          rcases hE with ⟨h, _⟩ | ⟨_, _, _, h⟩ | ⟨_, _, _, _, h, _⟩
          · exact absurd (congrArg Prod.fst h) hE0
          · exact h
          · exact absurd h (by show ¬ (0 : Int) ≤ -1; decide)
        have hE13 : 1 ≤ verE vw ∧ verE vw ≤ 13 := by rcases verE_cases vw with h | h | h <;> rw [h] at hE0 ⊢ <;> first | (exact absurd rfl hE0) | decide
        have hL2 := HLR.out
        rw [if_pos hE0] at hL2
        have HLT := Lib.hid hL2
        clear HLR hL2 hE
        go_wp2_with fail
        clear c0 q0 c1 q1 c2 q2 c3 q3 c4 q4 c5 q5 c6 q6
        have hh := HXf.out.all (.int .i64 0) (.string ⟨#[]⟩) (.int .i64 0) (.int .i64 0) (.int .i64 0) (.string ⟨#[]⟩) (.slice none 0 0)
        obtain ⟨h7, hfr⟩ := hh
        generalize World.setCell _ ⟨w.heap.size, 6, none⟩ (.slice none 0 0) = W at h7 hfr ⊢
        obtain ⟨⟨n0, n1, n2, n3, n4, n5, n6⟩, _⟩ := blk7 h7.b2
        have hbe := h7.bel
        exact bodyPost_ret (v := .tuple #[.agg #[.int .i64 0, .string ⟨#[]⟩, .int .i64 0, .int .i64 0, .int .i64 0, .string ⟨#[]⟩, .slice none 0 0], .iface 28 (.int .i64 (verE vw))]) (by simp [results, Tryz.results46, go_sem, n0, n1, n2, n3, n4, n5, n6]) rfl (.inl ⟨(verE vw, -1), _, _, _, _, _, _, _, _, _, _, HLT.out, hE0, rfl, .inr (.inl ⟨rfl, hE13.1, hE13.2, rfl⟩), hbe⟩)
  · have HLT := Lib.hid (show lineR s = .inl (3, -1) by unfold lineR; simp only [hK0, if_true])
    obtain ⟨⟨c0, c1, c2, c3, c4, c5, c6⟩, q0, q1, q2, q3, q4, q5, q6⟩ := blk7 HX2.out.b2

    clear hK0 x0 f0
    go_wp2_with fail
    clear c0 q0 c1 q1 c2 q2 c3 q3 c4 q4 c5 q5 c6 q6
    have hh := HX3.out.all (.int .i64 0) (.string ⟨#[]⟩) (.int .i64 0) (.int .i64 0) (.int .i64 0) (.string ⟨#[]⟩) (.slice none 0 0)
    obtain ⟨h7, hfr⟩ := hh
    generalize World.setCell _ ⟨w.heap.size, 6, none⟩ (.slice none 0 0) = W at h7 hfr ⊢
    obtain ⟨⟨n0, n1, n2, n3, n4, n5, n6⟩, _⟩ := blk7 h7.b2
    have hbe := h7.bel
    exact bodyPost_ret (v := .tuple #[.agg #[.int .i64 0, .string ⟨#[]⟩, .int .i64 0, .int .i64 0, .int .i64 0, .string ⟨#[]⟩, .slice none 0 0], .iface 28 (.int .i64 3)]) (by simp [results, Tryz.results46, go_sem, n0, n1, n2, n3, n4, n5, n6]) rfl (.inl ⟨(3, -1), _, _, _, _, _, _, _, _, _, _, HLT.out, by decide, rfl, .inr (.inl ⟨rfl, by decide, by decide, rfl⟩), hbe⟩)
/-- What ParseLine answers. -/
def ParseLineP (s : ByteArray) (w : World) (e : Ending) (w' : World) : Prop :=
  (∃ f u, lineR s = .inl f ∧ f.1 ≠ 0 ∧ e = .returned (.tuple #[.agg (lnC ln0 (.slice none 0 0)), u]) ∧ IsErr w' u f ∧ Below w.heap.size w w') ∨
  ∃ x v, lineR s = .inr x ∧ CanF 0 x.rg ∧ e = .returned (.tuple #[.agg (lnC x v), .nilIface]) ∧ OwnP w' w.heap.size v x.rg ∧ Below w.heap.size w w'
set_option maxHeartbeats 4000000 in
theorem parseLine_any (s : ByteArray) (w : World) (hG : GlobV w) (hs : s.size ≤ 21000) : Calls Tryz.prog 10 #[.string s] w (ParseLineP s w) := by
  have HG := hide hG
  have HX0 := hide (show PxI w #[.int .i64 0, .string ⟨#[]⟩, .int .i64 0, .int .i64 0, .int .i64 0, .string ⟨#[]⟩, .slice none 0 0] (w.alloc (.cells #[.int .i64 0, .string ⟨#[]⟩, .int .i64 0, .int .i64 0, .int .i64 0, .string ⟨#[]⟩, .slice none 0 0] 38)) from ⟨Blk.new w _ _, (Below.refl _ _).alloc (Nat.le_refl _) _⟩)
  clear hG
  go_enter Tryz.func10, Tryz.ntmps10
  go_wp2_with fail
  generalize (w.alloc (.cells #[.int .i64 0, .string ⟨#[]⟩, .int .i64 0, .int .i64 0, .int .i64 0, .string ⟨#[]⟩, .slice none 0 0] 38)) = w0 at HX0 ⊢
  have HLT := Lib.hid HX0.out.b2.lt
  refine (catLine_any s w0 (HG.out.below HX0.out.bel) hs).mono ?_
  rintro e w1 (⟨f, u, l0, l1, l2, l3, l4, l5, A6, n6, c6, hl, hf, rfl, hE, hb1⟩ | ⟨x, v, hl, hc, rfl, ho, hb1⟩)
  · have HX1 := hide (HX0.out.below hb1)
    obtain ⟨tp, pv, hu⟩ : ∃ tp pv, u = .iface tp pv := by
      rcases hE with ⟨h, _⟩ | ⟨_, _, _, h⟩ | ⟨_, _, _, _, _, h, _⟩
      · exact absurd (congrArg Prod.fst h) hf
      · exact ⟨_, _, h⟩
      · exact ⟨_, _, h⟩
    subst hu
    have HL := Lib.hid hl
    have HF := Lib.hid hf
    have HIE := hide (hE)
    have hblt : w.heap.size < w1.heap.size := HX1.out.b2.lt
    obtain ⟨⟨c0, c1, c2, c3, c4, c5, c6'⟩, q0, q1, q2, q3, q4, q5, q6⟩ := blk7 HX1.out.b2
    clear hl hf hb1 HX0 hE
    go_wp2_with fail
    have hh := HX1.out.all (.int .i64 0) (.string ⟨#[]⟩) (.int .i64 0) (.int .i64 0) (.int .i64 0) (.string ⟨#[]⟩) (.slice none 0 0)
    obtain ⟨h7, hfr⟩ := hh
    have h8 := h7.below ((Below.refl _ _).alloc (Nat.le_refl _) (.cells #[.int .i64 l0, .string l1, .int .i64 l2, .int .i64 l3, .int .i64 l4, .string l5, .slice A6 n6 c6] 38))
    have hIE := (isErr_fr HIE.out HX1.out.b2 hfr).below ((Below.refl _ _).alloc (Nat.le_refl _) (.cells #[.int .i64 l0, .string l1, .int .i64 l2, .int .i64 l3, .int .i64 l4, .string l5, .slice A6 n6 c6] 38))
    clear h7 hfr
    generalize World.alloc _ (.cells #[.int .i64 l0, .string l1, .int .i64 l2, .int .i64 l3, .int .i64 l4, .string l5, .slice A6 n6 c6] 38) = W at h8 hIE ⊢
    obtain ⟨⟨n0, n1, n2, n3, n4, n5, n6⟩, _⟩ := blk7 h8.b2
    have hbe := h8.bel
    exact bodyPost_ret (v := .tuple #[.agg #[.int .i64 0, .string ⟨#[]⟩, .int .i64 0, .int .i64 0, .int .i64 0, .string ⟨#[]⟩, .slice none 0 0], .iface tp pv]) (by simp [results, Tryz.results10, go_sem, n0, n1, n2, n3, n4, n5, n6]) rfl (.inl ⟨f, _, HL.out, HF.out, rfl, hIE, hbe⟩)
  · obtain ⟨A6, c6, rfl⟩ := ho.len
    have HL := Lib.hid hl
    have HC := Lib.hid hc
    unfold lnC
    have HX1 := hide (HX0.out.below hb1)
    have HO1 := hide ho
    have hblt : w.heap.size < w1.heap.size := HX1.out.b2.lt
    obtain ⟨⟨c0, c1, c2, c3, c4, c5, c6'⟩, q0, q1, q2, q3, q4, q5, q6⟩ := blk7 HX1.out.b2
    clear hl hc hb1 HX0 ho
    go_wp2_with fail
    have hh := HX1.out.all (.int .i64 x.k) (.string x.name) (.int .i64 (x.ver 0)) (.int .i64 (x.ver 1)) (.int .i64 (x.ver 2)) (.string x.other) (.slice A6 x.rg.length c6)
    obtain ⟨h7, hfr⟩ := hh
    have h8 := h7.below ((Below.refl _ _).alloc (Nat.le_refl _) (.cells #[.int .i64 x.k, .string x.name, .int .i64 (x.ver 0), .int .i64 (x.ver 1), .int .i64 (x.ver 2), .string x.other, .slice A6 x.rg.length c6] 38))
    have hIE := (HO1.out.fr hfr (fun k hk e => by have := HLT.out; omega)).below ((Below.refl _ _).alloc (Nat.le_refl _) (.cells #[.int .i64 x.k, .string x.name, .int .i64 (x.ver 0), .int .i64 (x.ver 1), .int .i64 (x.ver 2), .string x.other, .slice A6 x.rg.length c6] 38))
    clear h7 hfr
    generalize World.alloc _ (.cells #[.int .i64 x.k, .string x.name, .int .i64 (x.ver 0), .int .i64 (x.ver 1), .int .i64 (x.ver 2), .string x.other, .slice A6 x.rg.length c6] 38) = W at h8 hIE ⊢
    obtain ⟨⟨n0, n1, n2, n3, n4, n5, n6⟩, _⟩ := blk7 h8.b2
    have hbe := h8.bel
    exact bodyPost_ret (v := .tuple #[.agg #[.int .i64 x.k, .string x.name, .int .i64 (x.ver 0), .int .i64 (x.ver 1), .int .i64 (x.ver 2), .string x.other, .slice A6 x.rg.length c6], .nilIface]) (by simp [results, Tryz.results10, go_sem, n0, n1, n2, n3, n4, n5, n6]) rfl (.inr ⟨x, _, HL.out, HC.out, rfl, hIE.mono (by have := HLT.out; omega), hbe⟩)
end Go.Proofs.YtmncoldaemcnlaaGreatDoor
