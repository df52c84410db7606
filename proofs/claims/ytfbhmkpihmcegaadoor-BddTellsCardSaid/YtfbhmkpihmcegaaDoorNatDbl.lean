/-
  count's Double.
-/
import Derived.Test.YtfbhmkpihmcegaaDoorNatMul
import Derived.Deep.RegionWith
import Derived.Lib.MinMax
namespace Go.Proofs.YtfbhmkpihmcegaaDoor
open Go.RowKit Go.Shelf Go.Lib

theorem one_nat (w : World) (p : Nat) (x : Int) (hx : x = p) (h0 : 0 < p) (hp : p < 4294967296) : NatV (w.alloc (.cells #[.int .u32 x] 130)) (.agg #[.slice (some ⟨w.heap.size, 0, none⟩) 1 1]) p := by
  subst hx
  refine ⟨_, 1, 1, [p], rfl, Nat.le_refl _, ⟨rfl, by simp [maxLen], fun y hy => by rw [List.mem_singleton.1 hy]; exact hp, rfl, fun _ => ⟨_, rfl, by simp, fun j u hu => ?_⟩⟩, .inr (by simp; omega), by simp [valL]⟩
  match j, hu with
  | 0, hu => simp at hu; subst hu; simp [Addr.add]
/-- Where Double stands: V is there, and z doubles are wanted. -/
structure DblI (w : World) (g : Nat) (R : Nat) (z : Int) (wr : World) : Prop where
  bel : Below w.heap.size w wr
  out : ∃ u, Blk wr (g + 1) 66 #[u] ∧ ∀ i, u ≠ .int .u32 i
  acc : ∃ V, BoxN wr g V ∧ V * 2 ^ z.toNat = R
theorem dbl_bel {wr wa : World} {o : Obj} (h : Below (wr.alloc o).drew.heap.size (wr.alloc o).drew wa) : Below wr.heap.size wr wa :=
  ((Below.refl wr.heap.size wr).alloc (Nat.le_refl _) o).drew.trans (h.mono ((Below.refl wr.heap.size wr).alloc (Nat.le_refl _) o).drew.size)
theorem limb_boundK {p : Nat} (k : Nat) (hk : 1 ≤ k) (h : p < 4294967296) : p < 4294967296 ^ k := by
  have h1 : 4294967296 ^ 1 ≤ 4294967296 ^ k := Nat.pow_le_pow_right (by omega) hk
  rw [Nat.pow_one] at h1
  exact Nat.lt_of_lt_of_le h h1
theorem limb_bound {p : Nat} (h : p < 4294967296) : p < 4294967296 ^ 1000 := limb_boundK 1000 (by omega) h
theorem DblI.step {w wr wa : World} {g R s p V : Nat} {t : Int} {A : Option Addr} {n c : Nat} (h : DblI w g R t wr) (hg : w.heap.size ≤ g) (hV : BoxN wr g V) (hVR : V * 2 ^ t.toNat = R) (hb : Below wr.heap.size wr wa) (hv : NatV wa (.agg #[.slice A n c]) (V * p)) (hp : 2 ^ s = p) (hs : (s : Int) ≤ t) :
    DblI w g R (t - s) (wa.setCell ⟨g, 0, none⟩ (.slice A n c)) := by
  obtain ⟨u, hu, hun⟩ := h.out
  obtain ⟨A1, n1, c1, hk, _⟩ := hV.is
  refine ⟨(h.bel.trans (hb.mono h.bel.size)).setCell (p := ⟨g, 0, none⟩) hg _, ⟨u, (hu.below hb hu.lt).far (show g + 1 ≠ g from Nat.succ_ne_self g) _, hun⟩, V * p, (hV.below hb).put hv, ?_⟩
  rw [← hVR, ← hp, Nat.mul_assoc, ← Nat.pow_add]
  congr 2
  omega
set_option maxRecDepth 100000 in
set_option maxHeartbeats 4000000 in
theorem double_any (v : Value) (N K : Nat) (z : Int) (w : World) (h : NatV w v N) (hK : K = (max 0 (min z 1000)).toNat) (hN : Hid (N * 2 ^ K < 4294967296 ^ 1000)) (hz : -9223372036854775808 ≤ z ∧ z ≤ 9223372036854775807) :
    Calls Tryd.prog 41 #[v, .int .i64 z] w (OfPost w (N * 2 ^ K)) := by
  obtain ⟨A, n, c, rfl⟩ := h.form
  obtain ⟨T, HT⟩ : ∃ T : Int, Hid (T = min z 1000) := ⟨_, Lib.hid rfl⟩
  have hK2 : K = T.toNat := by rw [hK, HT.out]; omega
  have hT1 : T ≤ 1000 := by rw [HT.out]; omega
  have HB := hide (((Below.refl w.heap.size w).alloc (Nat.le_refl _) (.cells #[.slice A n c] 66)).alloc (by simp) (.cells #[.slice none 0 0] 66))
  have k1 := (Blk.new w 66 #[.slice A n c]).alloc (.cells #[.slice none 0 0] 66)
  have k2 := Blk.new (w.alloc (.cells #[.slice A n c] 66)) 66 #[.slice none 0 0]
  rw [sizeAl] at k2
  have HST := hide (show DblI w w.heap.size (N * 2 ^ K) T ((w.alloc (.cells #[.slice A n c] 66)).alloc (.cells #[.slice none 0 0] 66)) from ⟨HB.out, ⟨_, k2, fun i e => by cases e⟩, N, ⟨A, n, c, k1, h.below HB.out⟩, by rw [hK2]⟩)
  obtain ⟨R, HR⟩ : ∃ R, Hid (N * 2 ^ K = R) := ⟨_, Lib.hid rfl⟩
  rw [HR.out] at HST hN ⊢
  clear h k1 k2 HB hK
  go_enter Tryd.func41, Tryd.ntmps41
  go_wp2
  rw [← HT.out]
  generalize (w.alloc (.cells #[.slice A n c] 66)).alloc (.cells #[.slice none 0 0] 66) = w1 at HST ⊢
  obtain ⟨g, HGG⟩ : ∃ g, Hid (w.heap.size = g) := ⟨_, Lib.hid rfl⟩
  simp only [HGG.out] at HST ⊢
  have hgw : w.heap.size ≤ g := by rw [← HGG.out]; omega
  go_loopw [1] (fun iv wr => ∃ t : Int, t ≤ 1000 ∧ iv = .int .i64 t ∧ Hid (DblI w g R t wr)) (fun iv _ => (RowKit.intOf iv).toNat)
  case atStart => exact ⟨T, hT1, rfl, HST⟩
  case round =>
    clear HST
    obtain ⟨t, ht, rfl, hR⟩ := hrel
    by_cases h0 : 0 < t
    · obtain ⟨s, hs⟩ : ∃ s : Nat, s = (min t 31).toNat := ⟨_, rfl⟩
      have hsm : min t 31 = (s : Int) := by omega
      have hs31 : s ≤ 31 := by omega
      have hs1 : 1 ≤ s := by omega
      obtain ⟨V, hV, hVR⟩ := hR.out.acc
      obtain ⟨A4, n4, d4, hk4, hv4⟩ := hV.is
      have q4 := hk4.cell 0
      have f4 := hk4.frozen 0
      have l4 := hk4.lt
      obtain ⟨p, HP⟩ : ∃ p, Hid (2 ^ s = p) := ⟨_, Lib.hid rfl⟩
      have hp0 : 0 < p := by rw [← HP.out]; exact Nat.two_pow_pos s
      have hp4 : p < 4294967296 := by rw [← HP.out]; exact Nat.lt_of_le_of_lt (Nat.pow_le_pow_right (by omega) hs31) (by decide)
      have e1 : (2 : Int) ^ s = (p : Int) := by rw [← HP.out, Int.natCast_pow]; rfl
      have e2 : IntKind.u32.wrap (2 ^ s) = (p : Int) := by rw [e1, IntKind.wrap_u32']; omega
      have e3 : IntKind.u32.wrap (p : Int) = (p : Int) := by rw [IntKind.wrap_u32']; omega
      have hs0 : (0 : Int) ≤ (s : Int) := by omega
      have HMU := hide (fun (w' : World) (v2 : Value) (hb : Below wr.heap.size wr w') (h2 : NatV w' v2 p) => natMul_any _ v2 V p w' (hv4.below hb) h2 (by
        refine Nat.lt_of_le_of_lt ?_ hN.out
        rw [← hVR]
        exact Nat.le_mul_of_pos_right _ (Nat.two_pow_pos _)) (limb_bound hp4))
      have hst : (s : Int) ≤ t := by omega
      clear hs
      go_wp2
      go_region_with (go_at_call 79; refine (HMU.out _ _ (((Below.refl wr.heap.size wr).alloc (Nat.le_refl _) _).drew) ((one_nat wr p _ rfl hp0 hp4).below (Below.refl _ _).drew)).mono ?_; rintro e wa ⟨va, rfl, hva, hba⟩; obtain ⟨A6, n6, d6, e6⟩ := hva.form; subst e6; have hbA := dbl_bel hba; have f6 := (hbA.frozen (p := ⟨g, 0, none⟩) l4).trans f4; have c6 := (hbA.cell (p := ⟨g, 0, none⟩) l4).trans q4)
      all_goals
        have HNX := hide (hR.out.step hgw hV hVR hbA hva HP.out hst)
        clear hR hV hVR hk4 hv4 q4 f4 hva hba hbA f6 c6 HMU
        go_wp2
        go_roundw
        case rel => exact ⟨_, by omega, rfl, HNX⟩
        case measure => simp [RowKit.intOf]; omega
    · obtain ⟨u, hku, hun⟩ := hR.out.out
      obtain ⟨V, hV, hVR⟩ := hR.out.acc
      obtain ⟨A4, n4, d4, hk4, hv4⟩ := hV.is
      have HBX := hide hR.out.bel
      have q4 := hk4.cell 0
      have f2 := hku.frozen 0
      have c2 := hku.cell 0
      rw [show V = R by rw [← hVR, show t.toNat = 0 by omega]; simp] at hv4
      have HVV := hide (natV_set (u := .slice A4 n4 d4) hv4 (hku.cell 0) hun)
      have HBY := hide (HBX.out.setCell (p := ⟨g + 1, 0, none⟩) (Nat.le_succ_of_le hgw) (.slice A4 n4 d4))
      have d0 := (hku.set_ 0 (.slice A4 n4 d4)).cell 0
      clear hR hku hun hk4 hv4 hV hVR
      go_wp2
      exact bodyPost_ret (v := .agg #[.slice A4 n4 d4]) (by simp [results, Tryd.results41, go_sem, d0]) rfl ⟨_, rfl, HVV.out, HBY.out⟩
end Go.Proofs.YtfbhmkpihmcegaaDoor
