/-
  The document's Size.
-/
import Derived.Test.YtfbhmkpihmcegaaDoorSizeM
import Derived.BigRegion
import Derived.Deep.CutRange
namespace Go.Proofs.YtfbhmkpihmcegaaDoor
open Go.RowKit

theorem ownT_one (w : World) (base sz g : Nat) (hb : base ≤ w.heap.size) : OwnT (w.alloc (.cells #[tabV sz g] 82)) base sz (.slice (some ⟨w.heap.size, 0, none⟩) 1 1) [g] :=
  ⟨rfl, .inr ⟨w.heap.size, 1, #[tabV sz g], rfl, hb, Blk.new w _ _, Nat.le_refl _, by simp [maxLen], rfl, rfl⟩⟩
theorem ownT_nil (w : World) (base sz : Nat) : OwnT w base sz (.slice none 0 0) [] := World.ownsRow_nil _ _ _ _
theorem tabs_nil (w : World) (base sz : Nat) : Tabs w base sz [] [] := ⟨rfl, fun k hk => absurd hk (Nat.not_lt_zero k)⟩
theorem OwnT.len {w : World} {base sz : Nat} {v : Value} {gs : List Nat} (h : OwnT w base sz v gs) : ∃ A c, v = .slice A gs.length c := by
  rcases h.2 with ⟨rfl, h0⟩ | ⟨g, cap, cur, rfl, _⟩
  · exact ⟨none, 0, by rw [h0]⟩
  · exact ⟨_, _, rfl⟩
def foldT (v : Nat) (L : List (List Bool)) : List (List Bool) := L.foldl (fun l f => addT (addT l (lowT f v)) (highT f v)) []
/-- Where a round over a level's tables stands: w0 at the level's start. -/
structure RdI (w0 : World) (sz : Nat) (t : List Bool) (v k : Nat) (no next : Value) (wr : World) : Prop where
  n : no = .int .i64 ((sizeT t v + (((lvlT t v).take k).filter (openT v)).length : Nat) : Int)
  bel : Below w0.heap.size w0 wr
  row : ∃ gs, OwnT wr (w0.heap.size + 1) sz next gs ∧ Tabs wr 0 sz gs (foldT v ((lvlT t v).take k))
  seen : ∃ m, m ≤ 2 * k ∧ MapSeen wr w0.heap.size (fun x => decide (x ∈ foldT v ((lvlT t v).take k))) m
theorem rd_start (w0 : World) (sz : Nat) (t : List Bool) (v : Nat) : RdI w0 sz t v 0 (.int .i64 ((sizeT t v : Nat) : Int)) (.slice none 0 0) (w0.alloc (.map #[] 0)) :=
  ⟨rfl, (Below.refl _ _).alloc (Nat.le_refl _) _, ⟨[], ownT_nil _ _ _, tabs_nil _ _ _⟩, 0, Nat.zero_le _, mapSeen_made w0⟩
theorem OwnT.base_le {w : World} {b b' sz : Nat} {v : Value} {gs : List Nat} (h : OwnT w b sz v gs) (hb : b' ≤ b) : OwnT w b' sz v gs := by
  refine ⟨h.1, ?_⟩
  rcases h.2 with h2 | ⟨g, cap, cur, e, hg, r⟩
  · exact .inl h2
  · exact .inr ⟨g, cap, cur, e, Nat.le_trans hb hg, r⟩
/-- A row of tables. -/
def RowT (w wr : World) (sz : Nat) (v : Value) (L : List (List Bool)) : Prop := ∃ gs, OwnT wr w.heap.size sz v gs ∧ Tabs wr 0 sz gs L
structure LvI (w : World) (sz : Nat) (t : List Bool) (v : Nat) (no now : Value) (wr : World) : Prop where
  n : no = .int .i64 ((sizeT t v : Nat) : Int)
  bel : Below w.heap.size w wr
  row : RowT w wr sz now (lvlT t v)
theorem lv_start {w : World} {p sz : Nat} {t : List Bool} (h : Blk w p 4 (boolArr t)) (ht : t.length = sz) :
    LvI w sz t 0 (.int .i64 0) (.slice (some ⟨w.heap.size, 0, none⟩) 1 1) (w.alloc (.cells #[tabV sz p] 82)) := by
  have hal := (Below.refl w.heap.size w).alloc (Nat.le_refl _) (.cells #[tabV sz p] 82)
  exact ⟨rfl, hal, [p], ownT_one w _ sz p (Nat.le_refl _), (tabs_nil _ 0 sz).push (Nat.zero_le _) (h.below hal h.lt) ht⟩
theorem lv_next {w w0 wr : World} {sz v k : Nat} {t : List Bool} {no nx : Value} (hb : Below w.heap.size w w0) (h : RdI w0 sz t v k no nx wr) (hk : k = (lvlT t v).length) : LvI w sz t (v + 1) no nx wr := by
  subst hk
  obtain ⟨gs, h1, h2⟩ := h.row
  have hn := h.n
  rw [List.take_length] at h2 hn
  exact ⟨hn, hb.trans (h.bel.mono hb.size), gs, h1.base_le (Nat.le_succ_of_le hb.size), h2⟩
theorem half_start {wr : World} {pl ph sz v : Nat} {f : List Bool} (hn : pl ≠ ph) (h1 : Blk wr pl 4 (boolArr (List.replicate sz false))) (h2 : Blk wr ph 4 (boolArr (List.replicate sz false))) : HlfI wr pl ph sz f v 0 wr :=
  ⟨.of_below (Below.refl wr.heap.size wr) (Nat.le_refl _), hn, ⟨_, h1, List.length_replicate, fun j hj => absurd hj (Nat.not_lt_zero j)⟩, ⟨_, h2, List.length_replicate, fun j hj => absurd hj (Nat.not_lt_zero j)⟩⟩
theorem RdI.below {w0 wr wr' : World} {sz v k : Nat} {t : List Bool} {no nx : Value} (h : RdI w0 sz t v k no nx wr) (hb : Below wr.heap.size wr wr') : RdI w0 sz t v k no nx wr' := by
  obtain ⟨gs, h1, h2⟩ := h.row
  obtain ⟨m, h3, h4⟩ := h.seen
  exact ⟨h.n, h.bel.trans (hb.mono h.bel.size), ⟨gs, h1.below hb, h2.below hb⟩, m, h3, h4.below hb⟩
structure Twos (w0 wr : World) (pl ph sz : Nat) : Prop where
  bel : Below w0.heap.size w0 wr
  l0 : w0.heap.size ≤ pl
  h0 : w0.heap.size ≤ ph
  half : ∀ f v, HlfI wr pl ph sz f v 0 wr
theorem twos1 (w : World) (sz : Nat) : Twos w (((w.alloc (.cells (boolArr (List.replicate sz false)) 4)).alloc (.cells (boolArr (List.replicate sz false)) 4)).drew) w.heap.size (w.heap.size + 1) sz := by
  have h1 := Blk.new w 4 (boolArr (List.replicate sz false))
  have h2 := Blk.new (w.alloc (.cells (boolArr (List.replicate sz false)) 4)) 4 (boolArr (List.replicate sz false))
  have hb := (Below.refl (w.alloc (.cells (boolArr (List.replicate sz false)) 4)).heap.size _).alloc (Nat.le_refl _) (.cells (boolArr (List.replicate sz false)) 4)
  have h3 := h1.below hb h1.lt
  rw [show (w.alloc (.cells (boolArr (List.replicate sz false)) 4)).heap.size = w.heap.size + 1 by simp] at h2
  have hz := (((Below.refl w.heap.size w).alloc (Nat.le_refl _) (.cells (boolArr (List.replicate sz false)) 4)).alloc ((Below.refl w.heap.size w).alloc (Nat.le_refl _) (.cells (boolArr (List.replicate sz false)) 4)).size (.cells (boolArr (List.replicate sz false)) 4))
  exact ⟨⟨hz.os, hz.tape, hz.output, hz.size, hz.block⟩, Nat.le_refl _, by omega, fun f v => half_start (by omega) h3 h2⟩
theorem twos2 (w : World) (sz : Nat) : Twos w (((w.alloc (.cells (boolArr (List.replicate sz false)) 4)).alloc (.cells (boolArr (List.replicate sz false)) 4)).drew) (w.heap.size + 1) w.heap.size sz := by
  have h := twos1 w sz
  refine ⟨h.bel, h.h0, h.l0, fun f v => ?_⟩
  have hh := h.half f v
  obtain ⟨us, h1, h2, _⟩ := hh.lo
  obtain ⟨vs, k1, k2, _⟩ := hh.hi
  exact ⟨.of_below (Below.refl _ _) (Nat.le_refl _), hh.ne.symm, ⟨vs, k1, k2, fun j hj => absurd hj (Nat.not_lt_zero j)⟩, ⟨us, h1, h2, fun j hj => absurd hj (Nat.not_lt_zero j)⟩⟩
theorem pu_start {w0 wy : World} {sz v k pl ph : Nat} {t lo hi : List Bool} {no nx : Value} (h : RdI w0 sz t v k no nx wy) (h1 : Blk wy pl 4 (boolArr lo)) (h2 : Blk wy ph 4 (boolArr hi)) (hg : w0.heap.size < pl ∧ w0.heap.size < ph) (hl : lo.length = sz ∧ hi.length = sz) :
    PuI w0 sz (2 * k) pl ph wy.heap.size lo hi (foldT v ((lvlT t v).take k)) nx (wy.alloc (.cells #[tabV sz pl, tabV sz ph] 82)) := by
  have hal := (Below.refl wy.heap.size wy).alloc (Nat.le_refl _) (.cells #[tabV sz pl, tabV sz ph] 82)
  obtain ⟨gs, e1, e2⟩ := h.row
  obtain ⟨m, e3, e4⟩ := h.seen
  have e5 := e4.lt
  exact ⟨h.bel.trans (hal.mono h.bel.size), ⟨gs, e1.below hal, e2.below hal⟩, ⟨m, e3, e4.below hal⟩, h1.below hal h1.lt, h2.below hal h2.lt, Blk.new _ _ _, fun e => by have := (World.ownsRow.lt e1 _ e).2; omega, ⟨hg.1, hg.2, e5⟩, hl, by
    have e6 := next_len v ((lvlT t v).take k) []
    rw [List.length_nil, List.length_take] at e6
    unfold foldT
    omega⟩
def SizeQ (w : World) (t : List Bool) (vn : Nat) (e : Ending) (w' : World) : Prop := e = .returned (.int .i64 ((sizeT t vn : Nat) : Int)) ∧ Below w.heap.size w w'
set_option maxRecDepth 100000 in
set_option maxHeartbeats 8000000 in
theorem refSize_any (sz vn p : Nat) (t : List Bool) (w : World) (h : Blk w p 4 (boolArr t)) (ht : t.length = sz) (hs : 2 ^ vn = sz) (h6 : vn ≤ 6) :
    Calls Tryd.prog 58 #[tabV sz p, .int .i64 (vn : Int)] w (SizeQ w t vn) := by
  have hs64 : sz ≤ 64 := by rw [← hs]; exact Nat.le_trans (Nat.pow_le_pow_right (by omega) h6) (by decide)
  have HK := hide h
  have HSZ := Lib.hid hs
  have HL := hide (lv_start h ht)
  have hmm := @run_makeMap Tryd.prog
  have hmk := fun w => mk_table sz (sz : Int) rfl (by omega) w
  clear h hs
  unfold tabV at HL ⊢
  go_enter Tryd.func58, Tryd.ntmps58
  go_wp2
  go_loopw [5, 6, 23] (fun no vo iv wr => ∃ v : Nat, v ≤ vn ∧ iv = .int .i64 v ∧ Hid (LvI w sz t v no vo wr)) (fun _ _ iv _ => vn - (intOf iv).toNat)
  case atStart => exact ⟨0, Nat.zero_le _, rfl, HL⟩
  case round =>
    clear HL
    obtain ⟨v, hv, rfl, hI⟩ := hrel
    by_cases hlt : v < vn
    · obtain ⟨w0, rfl⟩ : ∃ w0, w0 = wr := ⟨_, rfl⟩
      have hvI : (v : Int) < (vn : Int) := by omega
      obtain rfl := hI.out.n
      obtain ⟨gs, ho, hT⟩ := hI.out.row
      obtain ⟨An, cn, rfl⟩ := ho.len
      have HR := hide (rd_start w0 sz t v)
      have HB := hide hI.out.bel
      have HO := hide ho
      have HT := hide hT
      have HLN := Lib.hid (And.intro hT.len (lvl_len t v))
      clear ho hT hI
      have hgl : gs.length ≤ 64 := by
        obtain ⟨e1, e2⟩ := HLN.out
        have : 2 ^ v ≤ 2 ^ 6 := Nat.pow_le_pow_right (by omega) (by omega)
        omega
      go_wp2
      go_loopw [5, 8, 29] (fun no nx iv wr2 => ∃ k : Nat, k ≤ gs.length ∧ iv = .int .i64 k ∧ Hid (RdI w0 sz t v k no nx wr2)) (fun _ _ iv _ => gs.length - (intOf iv).toNat)
      case atStart => exact ⟨0, Nat.zero_le _, rfl, HR⟩
      case round =>
        clear HR
        obtain ⟨k, hk, rfl, hR⟩ := hrel
        by_cases hkl : k < gs.length
        · obtain ⟨wk, rfl⟩ : ∃ wk, wk = wr := ⟨_, rfl⟩
          obtain ⟨s0, HS0⟩ : ∃ s0, Hid (sizeT t v + (((lvlT t v).take k).filter (openT v)).length = s0) := ⟨_, Lib.hid rfl⟩
          have hn5 := hR.out.n
          rw [HS0.out] at hn5
          subst hn5
          have hkI : (k : Int) < (gs.length : Int) := by omega
          obtain ⟨gr, cap, cur, e, _, hbk, _, hcs⟩ := (HO.out.below hR.out.bel).form (by omega)
          cases e
          have c0 := (hbk.cell k).trans (hcs k hkl)
          obtain ⟨_, hf1, hf2⟩ := (HT.out.below hR.out.bel).is k hkl
          have HF := hide hf1
          have HFL := Lib.hid hf2
          unfold tabV at c0
          clear hf1 hf2 hbk hcs
          generalize gs.getD k 0 = pf at c0 HF
          go_wp2
          apply dup_goal
          · intro K
            go_region
            · have HW := hide (twos1 wk sz)
              generalize ((wk.alloc (.cells (boolArr (List.replicate sz false)) 4)).alloc (.cells (boolArr (List.replicate sz false)) 4)).drew = wz at HW ⊢
              generalize wk.heap.size + 1 = ph at HW ⊢
              generalize wk.heap.size = pl at HW ⊢
              revert HW; revert ph; revert pl; revert wz
              exact K
            · have HW := hide (twos2 wk sz)
              generalize ((wk.alloc (.cells (boolArr (List.replicate sz false)) 4)).alloc (.cells (boolArr (List.replicate sz false)) 4)).drew = wz at HW ⊢
              generalize wk.heap.size + 1 = pl at HW ⊢
              generalize wk.heap.size = ph at HW ⊢
              revert HW; revert ph; revert pl; revert wz
              exact K
          intro wz pl ph HW
          have HFZ := hide (HF.out.below HW.out.bel HF.out.lt)
          have hpl := HW.out.l0
          have hph := HW.out.h0
          have hpf := HF.out.lt
          have n1 : pf ≠ pl := by omega
          have n2 : pf ≠ ph := by omega
          have HH := hide (HW.out.half ((lvlT t v).getD k []) v)
          obtain ⟨f, HFE⟩ : ∃ f, Hid ((lvlT t v).getD k [] = f) := ⟨_, Lib.hid rfl⟩
          rw [HFE.out] at HFZ HFL HH
          clear HF
          go_wp2
          go_loopw [41] (fun iv wr3 => ∃ i : Nat, i ≤ sz ∧ iv = .int .i64 i ∧ Hid (HlfI wz pl ph sz f v i wr3)) (fun iv _ => sz - (intOf iv).toNat)
          case atStart => exact ⟨0, Nat.zero_le _, rfl, HH⟩
          case round =>
            clear HH
            obtain ⟨i, hi, rfl, hH⟩ := hrel
            by_cases hil : i < sz
            · have hiI : (i : Int) < (sz : Int) := by omega
              have HFi := hide (HFZ.out.fr hH.out.fr (fun e => e.elim n1 n2))
              have hv6 : v < 6 := by omega
              have hi64 : i < 64 := by omega
              have hmin : min v 64 = v := by omega
              have hpw := powB v hv6
              have hpW := powW v hv6
              have hoff := offB v hv6 i hi64
              have hon := onB v hv6 i hi64
              have hkn := on_lt (show i < 2 ^ vn by rw [HSZ.out]; exact hil) hlt
              have hko := off_lt (v := v) (show i < 2 ^ vn by rw [HSZ.out]; exact hil)
              rw [HSZ.out] at hkn hko
              have HN1 := hide (hH.out.next hil)
              have HN2 := hide (hH.out.next2 hil)
              have c1 := (HFi.out.cell (onN i v)).trans (boolArr_at (by rw [HFL.out]; exact hkn))
              have c2 := (HFi.out.cell (offN i v)).trans (boolArr_at (by rw [HFL.out]; exact hko))
              obtain ⟨us, hu1, hu2, hu3⟩ := hH.out.lo
              obtain ⟨vs, hv1, hv2, hv3⟩ := hH.out.hi
              have t0 := (hu1.cell i).trans (boolArr_at (by omega))
              have tf := hu1.frozen i
              have t1 := (hv1.cell i).trans (boolArr_at (by omega))
              have tg := hv1.frozen i
              have n3 := hH.out.ne
              clear hu1 hu2 hu3 hv1 hv2 hv3 hH
              generalize f.getD (onN i v) false = bn at c1 HN1 HN2
              generalize f.getD (offN i v) false = bo at c2 HN1 HN2
              generalize onN i v = kn at hon hkn c1
              generalize offN i v = ko at hoff hko c2
              generalize 2 ^ v = pj at hpw hpW hoff hon
              have hknI : (kn : Int) < (sz : Int) := by omega
              have hkoI : (ko : Int) < (sz : Int) := by omega
              generalize us.getD i false = ub at t0
              generalize vs.getD i false = vb at t1
              go_wp2
              go_region
              all_goals
                clear hmin hpw hpW hoff hon c1 c2 t0 t1 tf tg
                go_wp2
                go_roundw
                case rel => exact ⟨i + 1, by omega, by go_num, by first | exact hide (HN1.out.drewN 1) | exact hide (HN2.out.drewN 1)⟩
                case measure => simp [intOf]; omega
            · obtain rfl : sz = i := by omega
              obtain ⟨hlo, hhi⟩ := hH.out.done HFL.out
              have HRN := hide (hR.out.below (HW.out.bel.trans (hH.out.fr.to_below HW.out.bel.size (fun j hj e => by omega))))
              have hgw := hR.out.seen
              have hg0 : w0.heap.size < pl ∧ w0.heap.size < ph := by
                obtain ⟨_, _, hs⟩ := hgw
                have := hs.lt
                omega
              clear hgw
              have HSM := hide (tabSame_any sz pl ph (lowT f v) (highT f v) wr hlo hhi (by rw [lowT_len]; exact HFL.out) (by rw [highT_len]; exact HFL.out) hs64)
              have HLH := hide (And.intro hlo hhi)
              have HLE := Lib.hid (show (lowT f v).length = sz ∧ (highT f v).length = sz from ⟨by rw [lowT_len]; exact HFL.out, by rw [highT_len]; exact HFL.out⟩)
              have HTO := Lib.hid (take_open v (lvlT t v) k (by rw [← HLN.out.1]; exact hkl))
              have HTF := Lib.hid (take_fold v (lvlT t v) k (by rw [← HLN.out.1]; exact hkl))
              rw [HFE.out] at HTO HTF
              have hs0 : s0 < 1000 := by
                have e1 := sizeT_lt t v
                have e2 := filter_le v ((lvlT t v).take k)
                have e3 := HS0.out
                have e4 : 2 ^ v ≤ 2 ^ 6 := Nat.pow_le_pow_right (by omega) (by omega)
                have e5 : ((lvlT t v).take k).length ≤ k := by rw [List.length_take]; omega
                omega
              clear hR hH hlo hhi
              obtain ⟨b, hb⟩ : ∃ b, decide (lowT f v = highT f v) = b := ⟨_, rfl⟩
              obtain ⟨s1, hs1⟩ : ∃ s1, s0 + (if b then 0 else 1) = s1 := ⟨_, rfl⟩
              have HS1 := Lib.hid (show sizeT t v + (((lvlT t v).take (k + 1)).filter (openT v)).length = s1 by
                have e1 := HS0.out
                rw [HTO.out, ← hs1, ← e1, ← hb]
                unfold openT
                by_cases hop : lowT f v = highT f v
                · simp [hop]
                · simp [hop]; omega)
              rw [hb] at HSM
              have HS2 := Lib.hid hs1
              clear hb hs1 HS0 HTO
              go_wp2_with fail
              refine (HSM.out).mono ?_
              rintro e w9 ⟨rfl, m, hm⟩
              have HM9 := Lib.hid hm
              clear hm HSM
              go_upto_if 68 with fail
              go_cut [5] from 65 to 70 (fun s5 wc => s5 = .int .i64 (s1 : Nat) ∧ wc = w9)
              case first =>
                cases b
                · have e1 := HS2.out
                  rw [if_neg (by decide)] at e1
                  go_wp2
                  go_meet
                  case rel => exact ⟨by rw [← e1]; rfl, rfl⟩
                · have e1 := HS2.out
                  rw [if_pos rfl, Nat.add_zero] at e1
                  go_wp2
                  go_meet
                  case rel => exact ⟨by rw [← e1], rfl⟩
              obtain ⟨rfl, rfl⟩ := hcut
              have HRY := hide (show RdI w0 sz t v k (.int .i64 (s0 : Int)) u8 wc by rw [HM9.out]; exact HRN.out.below (below_drewN (Below.refl _ _) m))
              have HPU := hide (pu_start HRY.out (show Blk wc pl 4 (boolArr (lowT f v)) by rw [HM9.out]; exact HLH.out.1.drewN m) (show Blk wc ph 4 (boolArr (highT f v)) by rw [HM9.out]; exact HLH.out.2.drewN m) hg0 HLE.out)
              have HTG := Lib.hid (show foldT v ((lvlT t v).take (k + 1)) = addT (addT (foldT v ((lvlT t v).take k)) (lowT f v)) (highT f v) from HTF.out)
              obtain ⟨lo, HLO⟩ : ∃ lo, Hid (lowT f v = lo) := ⟨_, Lib.hid rfl⟩
              obtain ⟨hi', HHI⟩ : ∃ hi, Hid (highT f v = hi) := ⟨_, Lib.hid rfl⟩
              obtain ⟨F0, HF0⟩ : ∃ F0, Hid (foldT v ((lvlT t v).take k) = F0) := ⟨_, Lib.hid rfl⟩
              rw [HLO.out, HHI.out] at HPU HTG
              rw [HF0.out] at HPU HTG
              have hk64 : k ≤ 64 := by omega
              clear HRY HLH HLE HTF HFE HRN HM9 HS2 HFZ HW hpl hph hpf n1 n2 c0 HFL hg0 HLO HHI HF0
              unfold tabV at HPU
              go_wp2
              generalize wc.alloc (.cells #[.slice (some ⟨pl, 0, none⟩) sz sz, .slice (some ⟨ph, 0, none⟩) sz sz] 82) = wx at HPU ⊢
              generalize wc.heap.size = px at HPU ⊢
              go_loopw [8, 75] (fun nx iv wr4 => ∃ j : Nat, j ≤ 2 ∧ iv = .int .i64 j ∧ Hid (PuI w0 sz (2 * k + j) pl ph px lo hi' (grJ lo hi' F0 j) nx wr4)) (fun _ iv _ => 2 - (intOf iv).toNat)
              case atStart => exact ⟨0, Nat.zero_le _, rfl, HPU⟩
              case round =>
                clear HPU
                obtain ⟨j, hj, rfl, hP⟩ := hrel
                by_cases hj2 : j < 2
                · obtain ⟨wa, rfl⟩ : ∃ wa, wa = wr := ⟨_, rfl⟩
                  have hjI : (j : Int) < 2 := by omega
                  obtain ⟨g, u, hgu, hcell, hnx⟩ := grJ_at (pl := pl) (ph := ph) (sz := sz) (lo := lo) (hi := hi') (L := F0) (j := j) hj2
                  have cx := (hP.out.kx.cell j).trans hcell
                  have hub : Blk wa g 4 (boolArr u) ∧ u.length = sz := by
                    rcases hgu with ⟨rfl, rfl⟩ | ⟨rfl, rfl⟩
                    · exact ⟨hP.out.kl, hP.out.len.1⟩
                    · exact ⟨hP.out.kh, hP.out.len.2⟩
                  have HU := hide hub.1
                  have HUL := Lib.hid hub.2
                  have HGU := Lib.hid hgu
                  have HNX := Lib.hid hnx
                  unfold tabV at cx
                  clear hgu hcell hnx hub
                  go_wp2
                  go_loopw [17, 81] (fun sv iv wr5 => ∃ i : Nat, i ≤ sz ∧ iv = .int .i64 i ∧ sv = .string (strT (u.take i)) ∧ wr5 = wa) (fun _ iv _ => sz - (intOf iv).toNat)
                  case atStart => exact ⟨0, Nat.zero_le _, rfl, rfl, rfl⟩
                  case round =>
                    obtain ⟨i, hi9, rfl, rfl, rfl⟩ := hrel
                    by_cases hil9 : i < sz
                    · have hiI : (i : Int) < (sz : Int) := by omega
                      have cu := (HU.out.cell i).trans (boolArr_at (by rw [HUL.out]; exact hil9))
                      have HSN := Lib.hid (strT_next (u := u) (i := i) (by rw [HUL.out]; exact hil9))
                      generalize u.getD i false = b at cu HSN
                      have hss := strT_size (u.take i)
                      have hst : (u.take i).length ≤ 64 := by rw [List.length_take]; omega
                      obtain ⟨si, HSI⟩ : ∃ si, Hid (strT (u.take i) = si) := ⟨_, Lib.hid rfl⟩
                      rw [HSI.out] at HSN hss ⊢
                      rw [hss.symm] at hst
                      clear hss
                      cases b
                      all_goals
                        go_wp2
                        go_roundw
                        case rel => exact ⟨i + 1, by omega, by go_num, by rw [HSN.out]; rfl, by first | trivial | rfl⟩
                        case measure => simp [intOf]; omega
                    · obtain rfl : sz = i := by omega
                      rw [List.take_of_length_le (Nat.le_of_eq HUL.out)]
                      obtain ⟨gt, hown, hT4⟩ := hP.out.row
                      obtain ⟨mm, hmm2, hseen⟩ := hP.out.seen
                      have hok : okT u := by unfold okT; rw [HUL.out]; exact hs64
                      have HLK := hseen.lookRun u hok
                      have HSE := hide hseen
                      have HOK := Lib.hid hok
                      have HOW := hide hown
                      have HTW := hide hT4
                      have hbs := hP.out.bel.size
                      have hmm3 : mm ≤ 1000000000 := by omega
                      have HM2 := Lib.hid hmm2
                      have hgl4 : gt.length ≤ 1000000 := by
                        have e1 := hT4.len
                        have e2 := hP.out.few
                        omega
                      clear hseen hok hown hT4 hmm2
                      unfold keyT at HLK
                      by_cases hu : u ∈ grJ lo hi' F0 j
                      · rw [decide_eq_true hu] at HLK
                        have HN9 := hide (hP.out.skip hu)
                        rw [← HNX.out] at HN9
                        have HH9 := hide (show PuI w0 sz (2 * k + (j + 1)) pl ph px lo hi' (grJ lo hi' F0 (j + 1)) u8 wr from HN9.out)
                        clear HN9
                        go_wp2
                        go_roundw
                        case rel => exact ⟨j + 1, by omega, by go_num, HH9⟩
                        case measure => simp [intOf]; omega
                      · rw [decide_eq_false hu] at HLK
                        have HNU := Lib.hid hu
                        clear hu
                        go_wp2_with (first
                          | (refine storeSeen rfl _ _ _ rfl rfl HSE.out u rfl rfl HOK.out hmm3 ?_; intro w1 hs1 hg1; have HSW := hide hs1; have HG1 := hide hg1; have HOA := hide (fun o => own_after HOW.out hg1 o); have HSA := Lib.hid (fun o => show w0.heap.size + 1 ≤ (w1.alloc o).heap.size by have := hg1.size; simp; omega); have HCE := Lib.hid (show (w1.alloc (.cells #[.slice (some ⟨g, 0, none⟩) sz sz] 82)).cell? ⟨w1.heap.size, 0, none⟩ = some (.slice (some ⟨g, 0, none⟩) sz sz) from (Blk.new w1 _ _).cell 0); clear hs1 hg1)
                          | (at_builtin; refine appT3 _ rfl _ _ _ rfl (w0.heap.size + 1) sz Tryd.underlying77 _ gt rfl (HOA.out _) w1.heap.size 1 g rfl HCE.out hgl4 (HSA.out _) ?_; intro v9 w9 ho9 hg9 hor9; have HN9 := hide (PuI.add hP.out HNU.out HGU.out HM2.out HSW.out HG1.out HOW.out HTW.out ho9 hg9 hor9); clear ho9 hg9 hor9)
                          | fail)
                        rw [← HNX.out] at HN9
                        have HH9 := hide (show PuI w0 sz (2 * k + (j + 1)) pl ph px lo hi' (grJ lo hi' F0 (j + 1)) v9 w9 from HN9.out)
                        clear HN9
                        go_roundw
                        case rel => exact ⟨j + 1, by omega, by go_num, HH9⟩
                        case measure => simp [intOf]; omega
                · obtain rfl : j = 2 := by omega
                  have hP2 := hP.out
                  rw [show grJ lo hi' F0 2 = addT (addT F0 lo) hi' from rfl, ← HTG.out] at hP2
                  have HR9 := hide (show RdI w0 sz t v (k + 1) (.int .i64 (s1 : Int)) _ _ from ⟨by rw [HS1.out], hP2.bel, hP2.row, hP2.seen⟩)
                  clear hP hP2
                  go_wp2
                  go_roundw
                  case rel => exact ⟨k + 1, by omega, by go_num, HR9⟩
                  case measure => simp [intOf]; omega
        · obtain rfl : k = gs.length := by omega
          have HN := hide (lv_next HB.out hR.out HLN.out.1)
          clear hR
          obtain rfl := HN.out.n
          go_wp2
          go_roundw
          case rel => exact ⟨v + 1, by omega, by go_num, HN⟩
          case measure => simp [intOf]; omega
    · obtain rfl : v = vn := by omega
      have hn := hI.out.n
      subst hn
      go_wp2
      go_ret
      exact ⟨rfl, hI.out.bel⟩
end Go.Proofs.YtfbhmkpihmcegaaDoor
