/-
  The law's nat: a text's number, both ways.
-/
import Derived.Test.YtpghgfenafhhbaaDoorNatQ
namespace Go.Proofs.YtpghgfenafhhbaaDoor
open Go.RowKit

def bothV (w' : World) (B : Nat) (s : ByteArray) (p : Value) : Prop := (numE s = 0 ∧ ∃ b, B ≤ b ∧ p = .pointer (some ⟨b, 0, none⟩) ∧ IntAt w' b (numN s)) ∨ (numE s ≠ 0 ∧ p = .pointer none)
def LnPost (w : World) (s : ByteArray) (e : Ending) (w' : World) : Prop :=
  ∃ v p, e = .returned (.tuple #[v, p, .bool (decide (numE s = 0))]) ∧ NatV w' v (numN s) ∧ bothV w' w.heap.size s p ∧ Below w.heap.size w w'
theorem IntAt.other {w : World} {b g N : Nat} {u u0 : Value} (h : IntAt w b N) (hs : w.cell? ⟨g, 0, none⟩ = some u0) (hu : ∀ i, u0 ≠ .int .u32 i) (hne : b ≠ g) : IntAt (w.setCell ⟨g, 0, none⟩ u) b N := by
  obtain ⟨v, h1, h2⟩ := h.is
  exact ⟨v, h1.far hne _, natV_set h2 hs hu⟩
theorem lnNo {w w' : World} {s : ByteArray} {v : Value} (h : numE s ≠ 0) (hv : NatV w' v (numN s)) (hb : Below w.heap.size w w') : LnPost w s (.returned (.tuple #[v, .pointer none, .bool false])) w' :=
  ⟨v, _, by rw [decide_eq_false h], hv, .inr ⟨h, rfl⟩, hb⟩
theorem lnYes {w w' : World} {s : ByteArray} {v : Value} {b : Nat} (h : numE s = 0) (hB : w.heap.size ≤ b) (hv : NatV w' v (numN s)) (hi : IntAt w' b (numN s)) (hb : Below w.heap.size w w') : LnPost w s (.returned (.tuple #[v, .pointer (some ⟨b, 0, none⟩), .bool true])) w' :=
  ⟨v, _, by rw [decide_eq_true h], hv, .inl ⟨h, b, hB, rfl, hi⟩, hb⟩

set_option maxRecDepth 100000 in
set_option maxHeartbeats 4000000 in
theorem lawNat_any (s : ByteArray) (w : World) (hs : s.size ≤ 300) : Calls Tryd.prog 17 #[.string s] w (LnPost w s) := by
  have HRP := hide (fun (w' : World) => refParse_any s w' (by omega))
  have HPP := hide (fun (w' : World) => parse_any s w' (by omega))
  have HB0 := hide ((Below.refl w.heap.size w).alloc (Nat.le_refl _) (.cells #[.slice none 0 0] 25))
  have HK0 := hide (Blk.new w 25 #[.slice none 0 0])
  obtain ⟨E, HE⟩ : ∃ E, Hid (numE s = E) := ⟨_, Lib.hid rfl⟩
  by_cases hz : E = 0
  · subst hz
    have HEI := Lib.hid (show errI (numE s) = .nilIface by unfold errI; rw [if_pos HE.out])
    go_enter Tryd.func17, Tryd.ntmps17
    go_wp2_with fail
    generalize (w.alloc (.cells #[.slice none 0 0] 25)) = wz at HB0 HK0 ⊢
    refine (HRP.out _).mono ?_
    rintro e w1 ⟨p, rfl, hp, hb1⟩
    rw [HE.out]
    rcases hp with ⟨_, rfl, hi1⟩ | ⟨hne, _⟩
    case inr => exact absurd HE.out hne
    have HI1 := hide hi1
    have HB1 := hide (HB0.out.trans (hb1.mono HB0.out.size))
    have HK1 := hide (HK0.out.below hb1 HK0.out.lt)
    have hbz : w.heap.size < wz.heap.size := HK0.out.lt
    generalize wz.heap.size = b at HI1 hbz ⊢
    clear hi1 hb1
    go_wp2_with fail
    refine (HPP.out _).mono ?_
    rintro e w2 ⟨v2, rfl, hv2, hb2⟩
    rw [HEI.out]
    obtain ⟨A2, n2, c2, e2⟩ := hv2.form
    subst e2
    have HB2 := hide ((HB1.out.trans (hb2.mono HB1.out.size)).alloc (HB1.out.trans (hb2.mono HB1.out.size)).size (.cells #[.slice A2 n2 c2] 25))
    have hal := (Below.refl w2.heap.size w2).alloc (Nat.le_refl _) (.cells #[.slice A2 n2 c2] 25)
    have HV2 := hide (hv2.below hal)
    have HI2 := hide ((HI1.out.below hb2).below hal)
    have HK2 := hide ((HK1.out.below hb2 HK1.out.lt).alloc (.cells #[.slice A2 n2 c2] 25))
    have HK3 := hide (Blk.new w2 25 #[.slice A2 n2 c2])
    have hgg : w.heap.size < w2.heap.size := (HK1.out.below hb2 HK1.out.lt).lt
    rw [show decV s.data.toList = numN s by unfold numN; rw [if_pos HE.out]] at HI2
    clear hal hv2 hb2 HI1 HK1 HRP HPP
    go_wp2
    generalize w2.heap.size = g2 at HK3 hgg ⊢
    generalize (w2.alloc (.cells #[.slice A2 n2 c2] 25)) = w3 at HB2 HK2 HK3 HV2 HI2 ⊢
    have c0 := HK2.out.cell 0
    have f0 := HK2.out.frozen 0
    have c1 := HK3.out.cell 0
    have HVV := hide (natV_set (u := .slice A2 n2 c2) HV2.out c0 (fun i e => by cases e))
    have HII := hide (HI2.out.other (u := .slice A2 n2 c2) c0 (fun i e => by cases e) (Nat.ne_of_gt hbz))
    have HBB := hide (HB2.out.setCell (p := ⟨w.heap.size, 0, none⟩) (Nat.le_refl _) (.slice A2 n2 c2))
    have HP0 := (HK2.out.set_ 0 (.slice A2 n2 c2)).cell 0
    clear HV2 HI2
    go_region
    all_goals
      go_wp2
      exact bodyPost_ret (v := .tuple #[.agg #[.slice A2 n2 c2], .pointer (some ⟨b, 0, none⟩), .bool true]) (by simp [results, Tryd.results17, go_sem, HP0]) rfl (lnYes HE.out (Nat.le_of_lt hbz) (HVV.out.below (Below.refl _ _).drew) (HII.out.below (Below.refl _ _).drew) HBB.out.drew)
  · have hne : numE s ≠ 0 := by rw [HE.out]; exact hz
    have HNE := Lib.hid hne
    have HEI := Lib.hid (show errI (numE s) = .iface 32 (.int .i64 E) by unfold errI; rw [if_neg hne, HE.out])
    have hzb : (E == 0) = false := beq_eq_false_iff_ne.2 hz
    go_enter Tryd.func17, Tryd.ntmps17
    go_wp2_with fail
    generalize (w.alloc (.cells #[.slice none 0 0] 25)) = wz at HB0 HK0 ⊢
    refine (HRP.out _).mono ?_
    rintro e w1 ⟨p, rfl, hp, hb1⟩
    rw [HE.out]
    rcases hp with ⟨h9, _⟩ | ⟨_, rfl⟩
    case inl => exact absurd h9 HNE.out
    have HB1 := hide (HB0.out.trans (hb1.mono HB0.out.size))
    have HK1 := hide (HK0.out.below hb1 HK0.out.lt)
    clear hb1 hne
    go_wp2_with fail
    refine (HPP.out _).mono ?_
    rintro e w2 ⟨v2, rfl, hv2, hb2⟩
    rw [HEI.out]
    obtain ⟨A2, n2, c2, e2⟩ := hv2.form
    subst e2
    have HB2 := hide ((HB1.out.trans (hb2.mono HB1.out.size)).alloc (HB1.out.trans (hb2.mono HB1.out.size)).size (.cells #[.slice A2 n2 c2] 25))
    have hal := (Below.refl w2.heap.size w2).alloc (Nat.le_refl _) (.cells #[.slice A2 n2 c2] 25)
    have HV2 := hide (hv2.below hal)
    have HK2 := hide ((HK1.out.below hb2 HK1.out.lt).alloc (.cells #[.slice A2 n2 c2] 25))
    have HK3 := hide (Blk.new w2 25 #[.slice A2 n2 c2])
    have hgg : w.heap.size < w2.heap.size := (HK1.out.below hb2 HK1.out.lt).lt
    clear hal hv2 hb2 HK1 HRP HPP
    go_wp2
    generalize w2.heap.size = g2 at HK3 hgg ⊢
    generalize (w2.alloc (.cells #[.slice A2 n2 c2] 25)) = w3 at HB2 HK2 HK3 HV2 ⊢
    have c0 := HK2.out.cell 0
    have f0 := HK2.out.frozen 0
    have c1 := HK3.out.cell 0
    have HVV := hide (natV_set (u := .slice A2 n2 c2) HV2.out c0 (fun i e => by cases e))
    have HBB := hide (HB2.out.setCell (p := ⟨w.heap.size, 0, none⟩) (Nat.le_refl _) (.slice A2 n2 c2))
    have HP0 := (HK2.out.set_ 0 (.slice A2 n2 c2)).cell 0
    clear HV2
    go_region
    all_goals
      go_wp2
      exact bodyPost_ret (v := .tuple #[.agg #[.slice A2 n2 c2], .pointer none, .bool false]) (by simp [results, Tryd.results17, go_sem, HP0]) rfl (lnNo HNE.out (HVV.out.below (Below.refl _ _).drew) HBB.out.drew)
end Go.Proofs.YtpghgfenafhhbaaDoor
