/-
  semver's ranges: And.
-/
import Derived.Test.YtbmmkhehejoidaaGreatDoorSpAnd
namespace Go.Proofs.YtbmmkhehejoidaaGreatDoor
open Go.RowKit

theorem bThen {u X Y : World} (h : Below u.heap.size u X) (k : Below X.heap.size X Y) : Below u.heap.size u Y := h.trans (k.mono h.size)
theorem and_keep {w W : World} {x : Nat} {v1 v2 v3 : Value} (h : Blk w x 31 #[v1] ∧ Blk w (x + 1) 31 #[v2] ∧ Blk w (x + 1 + 1) 31 #[v3]) (hb : Below w.heap.size w W) :
    W.cell? ⟨x, 0, none⟩ = some v1 ∧ W.cell? ⟨x + 1, 0, none⟩ = some v2 ∧ W.cell? ⟨x + 1 + 1, 0, none⟩ = some v3 ∧ W.frozen? ⟨x + 1 + 1, 0, none⟩ = false :=
  ⟨(h.1.below hb h.1.lt).cell 0, (h.2.1.below hb h.2.1.lt).cell 0, (h.2.2.below hb h.2.2.lt).cell 0, (h.2.2.below hb h.2.2.lt).frozen 0⟩
theorem and_two {w W : World} {x : Nat} {v1 v2 v3 : Value} (h : Blk w x 31 #[v1] ∧ Blk w (x + 1) 31 #[v2] ∧ Blk w (x + 1 + 1) 31 #[v3]) (hb : Below w.heap.size w W) :
    W.cell? ⟨x, 0, none⟩ = some v1 ∧ W.cell? ⟨x + 1, 0, none⟩ = some v2 := ⟨(and_keep h hb).1, (and_keep h hb).2.1⟩
theorem and_far {w W : World} {x : Nat} {v1 v2 v3 : Value} (h : Blk w x 31 #[v1] ∧ Blk w (x + 1) 31 #[v2] ∧ Blk w (x + 1 + 1) 31 #[v3]) (hb : Below w.heap.size w W) (u : Value) :
    (W.setCell ⟨x + 1 + 1, 0, none⟩ u).cell? ⟨x, 0, none⟩ = some v1 ∧ (W.setCell ⟨x + 1 + 1, 0, none⟩ u).cell? ⟨x + 1, 0, none⟩ = some v2 :=
  ⟨((h.1.below hb h.1.lt).far (by show x ≠ x + 1 + 1; omega) u).cell 0, ((h.2.1.below hb h.2.1.lt).far (by show x + 1 ≠ x + 1 + 1; omega) u).cell 0⟩
/-- The end of And. -/
theorem and_end {w wS W : World} {x : Nat} {v1 v2 v3 u : Value} {l : List (Nat × Nat)} {W4 : World} (h : Blk wS x 31 #[v1] ∧ Blk wS (x + 1) 31 #[v2] ∧ Blk wS (x + 1 + 1) 31 #[v3]) (hw : Below w.heap.size w wS) (hx : x = w.heap.size) (hb : Below wS.heap.size wS W) (hc : Below W.heap.size W W4) (ho : OwnP W4 W.heap.size u l) :
    (W4.setCell ⟨x + 1 + 1, 0, none⟩ u).cell? ⟨x + 1 + 1, 0, none⟩ = some u ∧ OwnP (W4.setCell ⟨x + 1 + 1, 0, none⟩ u) w.heap.size u l ∧ Below w.heap.size w (W4.setCell ⟨x + 1 + 1, 0, none⟩ u) := by
  have hB := hb.trans (hc.mono hb.size)
  have hk := h.2.2.below hB h.2.2.lt
  have hlt : x + 1 + 1 < W.heap.size := Nat.lt_of_lt_of_le h.2.2.lt hb.size
  refine ⟨(hk.set_ 0 u).cell 0, (ho.kept (only_setCell (g := x + 1 + 1) (grown_refl _ _) (.inl rfl) u) (.inr fun e => by have := (ho.base_le _ e).1; omega)).mono (by omega), (hw.trans (hB.mono hw.size)).setCell (by show w.heap.size ≤ x + 1 + 1; omega) u⟩
set_option maxRecDepth 100000 in
set_option maxHeartbeats 2000000 in
theorem and_any (v1 v2 : Value) (a b : List (Nat × Nat)) (w : World) (h1 : OwnP w 0 v1 a) (h2 : OwnP w 0 v2 b) (ha : CanF 0 a) (hb : CanF 0 b) :
    Calls Tryz.prog 15 #[.agg #[v1], .agg #[v2]] w (RgP w (andC a b)) := by
  have na := not_spec ha
  have nb := not_spec hb
  have no := or_spec na.1 nb.1
  have HIS := Lib.hid (and_is ha hb)
  have b1 := (((Below.refl w.heap.size w).alloc (Nat.le_refl _) (.cells #[v1] 31)).alloc (by simp) (.cells #[v2] 31)).alloc (by simp; omega) (.cells #[.slice none 0 0] 31)
  have r1 := ((Blk.new w 31 #[v1]).alloc (.cells #[v2] 31)).alloc (.cells #[.slice none 0 0] 31)
  have r2 := (Blk.new (w.alloc (.cells #[v1] 31)) 31 #[v2]).alloc (.cells #[.slice none 0 0] 31)
  have r3 := Blk.new ((w.alloc (.cells #[v1] 31)).alloc (.cells #[v2] 31)) 31 #[.slice none 0 0]
  simp only [World.size_alloc] at r2 r3
  have HF := hide (And.intro r1 (And.intro r2 r3))
  have H1 := hide (h1.below b1)
  have H2 := hide (h2.below b1)
  have HB := hide b1
  obtain ⟨A1, c1, rfl⟩ := h1.len
  obtain ⟨A2, c2, rfl⟩ := h2.len
  clear h1 h2 b1 r1 r2 r3
  go_enter Tryz.func15, Tryz.ntmps15
  go_wp2_with fail
  generalize (((w.alloc (.cells #[.slice A1 a.length c1] 31)).alloc (.cells #[.slice A2 b.length c2] 31)).alloc (.cells #[.slice none 0 0] 31)) = wS at HF H1 H2 HB ⊢
  generalize (Value.slice A1 a.length c1) = x1 at HF H1 ⊢
  generalize (Value.slice A2 b.length c2) = x2 at HF H2 ⊢
  have HN1 := hide (fun (W : World) (args : Array Value) (e : args = #[.agg #[x1]]) (hW : Below wS.heap.size wS W) => show Calls Tryz.prog 16 args W (RgP W (notC a)) from e ▸ not_any _ a W (H1.out.below hW) ha)
  have HN2 := hide (fun (W : World) (args : Array Value) (e : args = #[.agg #[x2]]) (hW : Below wS.heap.size wS W) => show Calls Tryz.prog 16 args W (RgP W (notC b)) from e ▸ not_any _ b W (H2.out.below hW) hb)
  have HO := hide (fun W u1 u2 (h : OwnP W 0 u1 (notC a) ∧ OwnP W 0 u2 (notC b)) => or_any u1 u2 _ _ W h.1 h.2 na.1 nb.1)
  have HN3 := hide (fun (W : World) (u : Value) (args : Array Value) (e : args = #[.agg #[u]]) (h : OwnP W 0 u (orC (notC a) (notC b))) => show Calls Tryz.prog 16 args W (RgP W (notC (orC (notC a) (notC b)))) from e ▸ not_any u _ W h no.1)
  have bS : Below wS.heap.size wS wS.drew := (Below.refl _ _).drew
  obtain ⟨z0, z1⟩ := and_two HF.out (Below.refl _ _)
  clear na nb no ha hb H1 H2
  go_region_held3 (fun w' => w'.cell? ⟨w.heap.size, 0, none⟩ = some x1 ∧ w'.cell? ⟨w.heap.size + 1, 0, none⟩ = some x2)
    (first
      | exact and_far HF.out (bThen (bThen (bThen (bThen bS b1) b2) b3) b4) _
      | exact and_far HF.out (bThen (bThen (bThen (bThen bS b2) b1) b3) b4) _
      | exact and_two HF.out (bThen (bThen (bThen (bThen bS b1) b2) b3) b4)
      | exact and_two HF.out (bThen (bThen (bThen (bThen bS b2) b1) b3) b4)
      | exact and_two HF.out (bThen (bThen (bThen bS b1) b2) b3)
      | exact and_two HF.out (bThen (bThen (bThen bS b2) b1) b3)
      | exact and_two HF.out (bThen (bThen bS b1) b2)
      | exact and_two HF.out (bThen (bThen bS b2) b1)
      | exact and_two HF.out (bThen bS b1)
      | exact and_two HF.out (bThen bS b2)
      | exact and_two HF.out bS
      | exact and_two HF.out (Below.refl _ _))
    (first
      | (go_at_call 14; refine (HO.out _ _ _ (by first | exact ⟨(o1.mono (Nat.zero_le _)).below b2, o2.mono (Nat.zero_le _)⟩ | exact ⟨o1.mono (Nat.zero_le _), (o2.mono (Nat.zero_le _)).below b1⟩)).mono ?_; rintro e w3 ⟨u3, rfl, o3, b3⟩)
      | (go_at_call 16; refine (HN3.out _ u3 _ (by exact rfl) (by exact o3.mono (Nat.zero_le _))).mono ?_; rintro e w4 ⟨u4, rfl, o4, b4⟩; obtain ⟨A4, c4, rfl⟩ := o4.len; obtain ⟨_, _, zr, fr⟩ := and_keep HF.out (by first | exact bThen (bThen (bThen (bThen bS b1) b2) b3) b4 | exact bThen (bThen (bThen (bThen bS b2) b1) b3) b4))
      | (go_at_call 16; refine (HN1.out _ _ (by exact rfl) (by first | exact bThen bS b2 | exact bS)).mono ?_; rintro e w1 ⟨u1, rfl, o1, b1⟩)
      | (go_at_call 16; refine (HN2.out _ _ (by exact rfl) (by first | exact bThen bS b1 | exact bS)).mono ?_; rintro e w2 ⟨u2, rfl, o2, b2⟩))
  all_goals
    obtain ⟨n0, R2, R3⟩ := and_end HF.out HB.out rfl (by first | exact bThen (bThen (bThen bS b1) b2) b3 | exact bThen (bThen (bThen bS b2) b1) b3) b4 o4
    go_wp2_with fail
    exact bodyPost_ret (v := .agg #[.slice A4 (notC (orC (notC a) (notC b))).length c4]) (by simp [results, Tryz.results15, go_sem, n0]) rfl ⟨_, rfl, by rw [HIS.out]; exact R2, R3⟩
end Go.Proofs.YtbmmkhehejoidaaGreatDoor
