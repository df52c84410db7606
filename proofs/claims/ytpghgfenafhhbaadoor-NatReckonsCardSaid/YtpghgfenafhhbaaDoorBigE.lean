/-
  solspacebig's Add, Sub, Mul of numbers that aren't below 0.
-/
import Derived.Test.YtpghgfenafhhbaaDoorBigD
import Derived.Test.YtpghgfenafhhbaaDoorBigQ
import Derived.Deep.RegionHeld3
namespace Go.Proofs.YtpghgfenafhhbaaDoor
open Go.RowKit

def BinPost (w : World) (b N : Nat) (e : Ending) (w' : World) : Prop := e = .returned (.pointer (some ⟨b, 0, none⟩)) ∧ IntAt w' b N ∧ Below b w w'
theorem BigV.form {w : World} {v : Value} {N : Nat} (h : BigV w v N) : ∃ A n c, v = .slice A n c := by
  obtain ⟨A, n, c, _, e, _⟩ := NatV.is h
  exact ⟨A, n, c, agg_one e⟩
/-- The cells of two numbers. -/
theorem keepI {w w' : World} {x y : Nat} {p q r s : Value} (hx : x < w.heap.size) (hy : y < w.heap.size) (hb : Below w.heap.size w w') (h : w.cell? ⟨x, 0, none⟩ = some p ∧ w.cell? ⟨x, 1, none⟩ = some q ∧ w.cell? ⟨y, 0, none⟩ = some r ∧ w.cell? ⟨y, 1, none⟩ = some s) :
    w'.cell? ⟨x, 0, none⟩ = some p ∧ w'.cell? ⟨x, 1, none⟩ = some q ∧ w'.cell? ⟨y, 0, none⟩ = some r ∧ w'.cell? ⟨y, 1, none⟩ = some s :=
  ⟨(hb.cell (p := ⟨x, 0, none⟩) hx).trans h.1, (hb.cell (p := ⟨x, 1, none⟩) hx).trans h.2.1, (hb.cell (p := ⟨y, 0, none⟩) hy).trans h.2.2.1, (hb.cell (p := ⟨y, 1, none⟩) hy).trans h.2.2.2⟩
theorem keepJ {w : World} {b x y i : Nat} {p q r s u : Value} (hx : b ≠ x) (hy : b ≠ y) (h : w.cell? ⟨x, 0, none⟩ = some p ∧ w.cell? ⟨x, 1, none⟩ = some q ∧ w.cell? ⟨y, 0, none⟩ = some r ∧ w.cell? ⟨y, 1, none⟩ = some s) :
    (w.setCell ⟨b, i, none⟩ u).cell? ⟨x, 0, none⟩ = some p ∧ (w.setCell ⟨b, i, none⟩ u).cell? ⟨x, 1, none⟩ = some q ∧ (w.setCell ⟨b, i, none⟩ u).cell? ⟨y, 0, none⟩ = some r ∧ (w.setCell ⟨b, i, none⟩ u).cell? ⟨y, 1, none⟩ = some s :=
  ⟨(World.cell?_setCell_other _ _ _ _ (fun e => hx (by injection e))).trans h.1, (World.cell?_setCell_other _ _ _ _ (fun e => hx (by injection e))).trans h.2.1, (World.cell?_setCell_other _ _ _ _ (fun e => hy (by injection e))).trans h.2.2.1, (World.cell?_setCell_other _ _ _ _ (fun e => hy (by injection e))).trans h.2.2.2⟩
theorem below_out {w w' : World} (h : Below w.drew.heap.size w.drew w') : Below w.heap.size w w' := (Below.refl _ w).drew.trans h
theorem big_done {w w1 : World} {b N : Nat} {u0 u1 v : Value} (hz : Blk w b 49 #[u0, u1]) (hb : Below w.heap.size w w1) (hv : BigV w1 v N) (hn : NewV w.heap.size v) : IntAt ((w1.setCell ⟨b, 1, none⟩ v).setCell ⟨b, 0, none⟩ (.bool false)) b N ∧ Below b w ((w1.setCell ⟨b, 1, none⟩ v).setCell ⟨b, 0, none⟩ (.bool false)) :=
  ⟨given (hz.below hb hz.lt) hv (hn.less hz.lt), ((hb.mono (Nat.le_of_lt hz.lt)).setCell (p := ⟨b, 1, none⟩) (Nat.le_refl b) v).setCell (p := ⟨b, 0, none⟩) (Nat.le_refl b) (.bool false)⟩

set_option maxRecDepth 100000 in
set_option maxHeartbeats 4000000 in
theorem intAdd_any (b x y N M : Nat) (u0 u1 : Value) (w : World) (hz : Blk w b 49 #[u0, u1]) (h1 : IntAt w x N) (h2 : IntAt w y M) (hN : N < 4294967296 ^ 1000) (hM : M < 4294967296 ^ 1000) (hbx : b ≠ x) (hby : b ≠ y) :
    Calls Tryd.prog 24 #[.pointer (some ⟨b, 0, none⟩), .pointer (some ⟨x, 0, none⟩), .pointer (some ⟨y, 0, none⟩)] w (BinPost w b (N + M)) := by
  obtain ⟨v1, k1, hv1⟩ := h1.is
  obtain ⟨v2, k2, hv2⟩ := h2.is
  have c0 := k1.cell 0
  have c1 := k1.cell 1
  have d0 := k2.cell 0
  have d1 := k2.cell 1
  have lx := k1.lt
  have ly := k2.lt
  have HZ := hide hz
  have HS := hide (fun (w' : World) (hb : Below w.heap.size w w') => sumAdd_any v1 v2 N M w' (hv1.below hb) (hv2.below hb) hN hM)
  clear h1 h2 hv1 hv2 hN hM k1 k2 hz
  go_enter Tryd.func24, Tryd.ntmps24
  go_wp2
  go_region_held3 (fun w' => w'.cell? ⟨x, 0, none⟩ = some (.bool false) ∧ w'.cell? ⟨x, 1, none⟩ = some v1 ∧ w'.cell? ⟨y, 0, none⟩ = some (.bool false) ∧ w'.cell? ⟨y, 1, none⟩ = some v2) (first | assumption | exact ⟨c0, c1, d0, d1⟩ | exact keepI lx ly hb1 ⟨c0, c1, d0, d1⟩ | exact keepI lx ly (below_out hb1) ⟨c0, c1, d0, d1⟩ | exact keepJ hbx hby (keepJ hbx hby (keepI lx ly (below_out hb1) ⟨c0, c1, d0, d1⟩)) | exact keepJ hbx hby (keepJ hbx hby (keepI lx ly hb1 ⟨c0, c1, d0, d1⟩)))
    (first
      | (go_at_call 44; refine (HS.out _ (by first | exact Below.refl _ _ | exact (Below.refl _ _).drew)).mono ?_; rintro e w1 ⟨v, rfl, hv, hn, hb1⟩; obtain ⟨A, n, c, ev⟩ := hv.form; subst ev)
      | (go_at_call 43; refine (give_any b A n c u0 u1 _ (HZ.out.below (below_out hb1) HZ.out.lt)).mono ?_; rintro e w2 ⟨rfl, rfl⟩))
  all_goals
    have HD := hide (big_done HZ.out (below_out hb1) hv hn)
    go_wp2
    go_ret
    exact ⟨rfl, HD.out⟩

set_option maxRecDepth 100000 in
set_option maxHeartbeats 4000000 in
theorem intSub_any (b x y N M : Nat) (u0 u1 : Value) (w : World) (hz : Blk w b 49 #[u0, u1]) (h1 : IntAt w x N) (h2 : IntAt w y M) (hN : N < 4294967296 ^ 1000) (hM : M < 4294967296 ^ 1000) (hge : M ≤ N) (hbx : b ≠ x) (hby : b ≠ y) :
    Calls Tryd.prog 20 #[.pointer (some ⟨b, 0, none⟩), .pointer (some ⟨x, 0, none⟩), .pointer (some ⟨y, 0, none⟩)] w (BinPost w b (N - M)) := by
  obtain ⟨v1, k1, hv1⟩ := h1.is
  obtain ⟨v2, k2, hv2⟩ := h2.is
  have c0 := k1.cell 0
  have c1 := k1.cell 1
  have d0 := k2.cell 0
  have d1 := k2.cell 1
  have lx := k1.lt
  have ly := k2.lt
  have HZ := hide hz
  have HS := hide (fun (w' : World) (hb : Below w.heap.size w w') => sumSub_any v1 v2 N M w' (hv1.below hb) (hv2.below hb) hN hM hge)
  clear h1 h2 hv1 hv2 hN hM k1 k2 hz
  go_enter Tryd.func20, Tryd.ntmps20
  go_wp2
  go_region_held3 (fun w' => w'.cell? ⟨x, 0, none⟩ = some (.bool false) ∧ w'.cell? ⟨x, 1, none⟩ = some v1 ∧ w'.cell? ⟨y, 0, none⟩ = some (.bool false) ∧ w'.cell? ⟨y, 1, none⟩ = some v2) (first | assumption | exact ⟨c0, c1, d0, d1⟩ | exact keepI lx ly hb1 ⟨c0, c1, d0, d1⟩ | exact keepI lx ly (below_out hb1) ⟨c0, c1, d0, d1⟩ | exact keepJ hbx hby (keepJ hbx hby (keepI lx ly (below_out hb1) ⟨c0, c1, d0, d1⟩)) | exact keepJ hbx hby (keepJ hbx hby (keepI lx ly hb1 ⟨c0, c1, d0, d1⟩)))
    (first
      | (go_at_call 44; refine (HS.out _ (by first | exact Below.refl _ _ | exact (Below.refl _ _).drew)).mono ?_; rintro e w1 ⟨v, rfl, hv, hn, hb1⟩; obtain ⟨A, n, c, ev⟩ := hv.form; subst ev)
      | (go_at_call 43; refine (give_any b A n c u0 u1 _ (HZ.out.below (below_out hb1) HZ.out.lt)).mono ?_; rintro e w2 ⟨rfl, rfl⟩))
  all_goals
    have HD := hide (big_done HZ.out (below_out hb1) hv hn)
    go_wp2
    go_ret
    exact ⟨rfl, HD.out⟩

set_option maxRecDepth 100000 in
set_option maxHeartbeats 4000000 in
theorem intMul_any (b x y N M : Nat) (u0 u1 : Value) (w : World) (hz : Blk w b 49 #[u0, u1]) (h1 : IntAt w x N) (h2 : IntAt w y M) (hN : N < 4294967296 ^ 1000) (hM : M < 4294967296 ^ 1000) (hbx : b ≠ x) (hby : b ≠ y) :
    Calls Tryd.prog 26 #[.pointer (some ⟨b, 0, none⟩), .pointer (some ⟨x, 0, none⟩), .pointer (some ⟨y, 0, none⟩)] w (BinPost w b (N * M)) := by
  obtain ⟨v1, k1, hv1⟩ := h1.is
  obtain ⟨v2, k2, hv2⟩ := h2.is
  have c0 := k1.cell 0
  have c1 := k1.cell 1
  have d0 := k2.cell 0
  have d1 := k2.cell 1
  have lx := k1.lt
  have ly := k2.lt
  have HZ := hide hz
  have HS := hide (fun (w' : World) (hb : Below w.heap.size w w') => bigMul_any v1 v2 N M w' (hv1.below hb) (hv2.below hb) hN hM)
  clear h1 h2 hv1 hv2 hN hM k1 k2 hz
  go_enter Tryd.func26, Tryd.ntmps26
  go_wp2
  go_region_held3 (fun w' => w'.cell? ⟨x, 0, none⟩ = some (.bool false) ∧ w'.cell? ⟨x, 1, none⟩ = some v1 ∧ w'.cell? ⟨y, 0, none⟩ = some (.bool false) ∧ w'.cell? ⟨y, 1, none⟩ = some v2) (first | assumption | exact ⟨c0, c1, d0, d1⟩ | exact keepI lx ly hb1 ⟨c0, c1, d0, d1⟩ | exact keepI lx ly (below_out hb1) ⟨c0, c1, d0, d1⟩ | exact keepJ hbx hby (keepJ hbx hby (keepI lx ly (below_out hb1) ⟨c0, c1, d0, d1⟩)) | exact keepJ hbx hby (keepJ hbx hby (keepI lx ly hb1 ⟨c0, c1, d0, d1⟩)))
    (first
      | (go_at_call 48; refine (HS.out _ (by first | exact Below.refl _ _ | exact (Below.refl _ _).drew)).mono ?_; rintro e w1 ⟨v, rfl, hv, hn, hb1⟩; obtain ⟨A, n, c, ev⟩ := hv.form; subst ev)
      | (go_at_call 43; refine (give_any b A n c u0 u1 _ (HZ.out.below (below_out hb1) HZ.out.lt)).mono ?_; rintro e w2 ⟨rfl, rfl⟩))
  all_goals
    have HD := hide (big_done HZ.out (below_out hb1) hv hn)
    go_wp2
    go_ret
    exact ⟨rfl, HD.out⟩
end Go.Proofs.YtpghgfenafhhbaaDoor
