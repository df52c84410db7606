/-
  An arena's Reach.
-/
import Derived.Test.YtfbhmkpihmcegaaDoorRowI
namespace Go.Proofs.YtfbhmkpihmcegaaDoor
open Go.RowKit

def offs (seen : List Bool) : Nat := seen.countP (fun b => !b)
theorem offs_set {seen : List Bool} {k : Nat} (hk : k < seen.length) (h : seen.getD k false = false) : offs seen = offs (seen.set k true) + 1 := by
  unfold offs
  induction seen generalizing k with
  | nil => simp at hk
  | cons a l ih =>
    cases k with
    | zero =>
      have ha : a = false := by simpa using h
      subst ha
      rw [List.set_cons_zero, List.countP_cons_of_pos (by rfl), List.countP_cons_of_neg (by simp)]
    | succ k =>
      rw [List.set_cons_succ, List.countP_cons, List.countP_cons, ih (by simpa using hk) (by simpa using h)]
      omega
theorem offs_le (seen : List Bool) : offs seen ≤ seen.length := List.countP_le_length
theorem node_small {A : Ar} (hw : WfA A) (hl : A.length ≤ 4000) {x : Int} {n : Nd} (e : gotA A x = some n) : I64 n.low ∧ I64 n.high := by
  have hk : ∀ y, hasA A y = true → I64 y := fun y hy => by
    unfold hasA at hy
    unfold I64
    by_cases h0 : y = 0
    · omega
    · by_cases h1 : y = 1
      · omega
      · rw [beq_eq_false_iff_ne.2 h0, beq_eq_false_iff_ne.2 h1] at hy
        simp only [Bool.false_or] at hy
        obtain ⟨m, em⟩ := Option.isSome_iff_exists.1 hy
        obtain ⟨k, ek, hk, _⟩ := gotA_is em
        omega
  exact ⟨hk _ (hw.low x n e).1, hk _ (hw.high x n e).1⟩
/-- Where Reach stands. -/
structure DfsI (w : World) (gs : Nat) (A : Ar) (l : List Int) (seen : List Bool) (todo : List Int) (vo : Value) (wr : World) : Prop where
  bel : Below w.heap.size w wr
  ks : Blk wr gs 4 (boolArr seen)
  own : OwnI wr (gs + 1) vo todo
  S : SeenI A l seen todo
  i64 : ∀ x ∈ todo, I64 x
structure OutI (w : World) (gs : Nat) (seen : List Bool) (i : Nat) (vo : Value) (wr : World) : Prop where
  bel : Below w.heap.size w wr
  ks : Blk wr gs 4 (boolArr seen)
  own : OwnI wr (gs + 1) vo (outL seen i)
theorem outL_le (seen : List Bool) (i : Nat) : (outL seen i).length ≤ i := by
  unfold outL
  rw [List.length_map]
  exact Nat.le_trans (List.length_filter_le ..) (by rw [List.length_range]; exact Nat.le_refl _)

set_option maxRecDepth 100000 in
set_option maxHeartbeats 8000000 in
theorem arReach_any (B gn gu gt : Nat) (A : Ar) (Af : Option Addr) (nf cf : Nat) (l : List Int) (w : World) (h : ArM w B gn gu gt A) (hl : RowI w Af nf l) (hi : ∀ x ∈ l, I64 x) (hn : nf ≤ 1000000) (hnil : Af = none → nf = 0) :
    Calls Tryd.prog 13 #[.pointer (some ⟨B, 0, none⟩), .slice Af nf cf] w (OwnPost w (reachL A l)) := by
  obtain ⟨ns, us, tab, hx⟩ := h.x
  have hroom := h.room
  have hmk := mk_bools A.length (by omega)
  have HW := hide h
  have HWF := hide hx.T.wf
  have b0 := hx.kB.cell 0
  have HI := hide hi
  have HLL := Lib.hid hl.1
  have HK := hide (Blk.new w 4 (boolArr (List.replicate A.length false)))
  have HB := hide ((Below.refl w.heap.size w).alloc (Nat.le_refl _) (.cells (boolArr (List.replicate A.length false)) 4))
  have HCL := hide (cloneI_any Af nf cf l _ (hl.below HB.out) hn hnil)
  have hsz : (w.alloc (.cells (boolArr (List.replicate A.length false)) 4)).heap.size = w.heap.size + 1 := by simp
  clear h hx hl hi
  go_enter Tryd.func13, Tryd.ntmps13
  go_wp2_with fail
  refine (HCL.out).mono ?_
  rintro e w1 ⟨vo, rfl, ho, hb1⟩
  rw [hsz] at ho
  have HST := hide (show DfsI w w.heap.size A l (List.replicate A.length false) l vo w1 from ⟨HB.out.trans (hb1.mono HB.out.size), HK.out.below hb1 HK.out.lt, ho, seen_start A l, HI.out⟩)
  obtain ⟨N0, HN0⟩ : ∃ N0, Hid (2 * offs (List.replicate A.length false) + l.length = N0) := ⟨_, Lib.hid rfl⟩
  have hN0 : N0 ≤ 1010000 := by
    have h1 := offs_le (List.replicate A.length false)
    rw [List.length_replicate] at h1
    have h2 := HN0.out
    have h3 := HLL.out
    omega
  clear ho hb1 HCL HB HK b0 hmk hsz
  obtain ⟨gs, HGS⟩ : ∃ gs, Hid (w.heap.size = gs) := ⟨_, Lib.hid rfl⟩
  have hgs : w.heap.size ≤ gs := by rw [← HGS.out]; omega
  simp only [HGS.out] at HST ⊢
  have hNAr : ∀ k, arB B gn gu gt k → k < gs := fun k hk => by rw [← HGS.out]; exact HW.out.lt hk
  go_wp2
  go_loopg [6] N0 (fun gk vo wr => gk ≤ N0 ∧ ∃ seen todo, 2 * offs seen + todo.length = gk ∧ Hid (DfsI w gs A l seen todo vo wr))
  case atStart => exact ⟨Nat.le_refl _, _, l, HN0.out, HST⟩
  case round =>
    clear HST
    obtain ⟨hgN, seen, todo, hgk, hD⟩ := hrel
    have HMr := hide (HW.out.below hD.out.bel (fun k hk => HW.out.lt hk))
    rcases List.eq_nil_or_concat todo with e | ⟨t, x, e⟩
    · subst e
      obtain ⟨A0, c0, e0⟩ := hD.out.own.len
      rw [List.length_nil] at e0
      subst e0
      have hsl := hD.out.S.len
      have HO := hide (show OutI w gs seen 0 (.slice none 0 0) wr from ⟨hD.out.bel, hD.out.ks, ownI_nil _ _⟩)
      have HSO := Lib.hid hD.out.S.out
      clear hD HMr
      have hr2 : A.length ≤ 4000 := hroom
      go_wp2
      go_loopw [10, 63] (fun vo iv wi => ∃ i : Nat, i ≤ A.length ∧ iv = .int .i64 i ∧ Hid (OutI w gs seen i vo wi)) (fun _ iv _ => A.length - (intOf iv).toNat)
      case atStart => exact ⟨0, Nat.zero_le _, rfl, HO⟩
      case round =>
        clear HO
        obtain ⟨i, hi, rfl, hO⟩ := hrel
        by_cases hlt : i < A.length
        · have s0 := (hO.out.ks.cell i).trans (boolArr_at (by rw [hsl]; exact hlt))
          have HN := Lib.hid (outL_succ seen i)
          by_cases hs : seen.getD i false = true
          · rw [if_pos hs] at HN
            rw [hs] at s0
            have hle := outL_le seen i
            have HOA := hide (hO.out.own.below ((Below.refl wr.heap.size wr).alloc (Nat.le_refl _) (.cells #[.int .i64 ((i : Int) + 2)] 3)))
            have HBA := hide (hO.out.bel.alloc hO.out.bel.size (.cells #[.int .i64 ((i : Int) + 2)] 3))
            have HKA := hide (hO.out.ks.alloc (.cells #[.int .i64 ((i : Int) + 2)] 3))
            have HRA := hide (blk_reads (zs := [(i : Int) + 2]) (Blk.new wr 3 #[.int .i64 ((i : Int) + 2)]))
            have HSZ := Lib.hid (show gs + 1 ≤ (wr.alloc (.cells #[.int .i64 ((i : Int) + 2)] 3)).heap.size from HKA.out.lt)
            have HLT := hide (World.ownsRow.lt HOA.out)
            clear hs
            go_wp2_with (at_builtin; refine appI _ rfl _ _ _ rfl (gs + 1) Tryd.underlying44 _ (outL seen i) rfl HOA.out (wr.heap.size + 1) (some ⟨wr.heap.size, 0, none⟩) 1 1 [(i : Int) + 2] rfl HRA.out rfl (by omega) HSZ.out ?_; intro v9 w9 ho9 hg9 hor9; have HO9 := hide ho9; have HB9 := hide (HBA.out.grown hg9 HBA.out.size (fun k hk => Nat.le_trans (by omega) (HLT.out k hk).1)); have HK9 := hide (HKA.out.grown hg9 (fun e => by have := (HLT.out gs e.symm).1; omega)); clear ho9 hg9 hor9)
            go_roundw
            case rel => exact ⟨i + 1, by omega, by go_num, hide ⟨HB9.out, HK9.out, by rw [HN.out]; exact HO9.out⟩⟩
            case measure => simp [intOf]; omega
          · have hs' := Bool.eq_false_iff.2 hs
            rw [if_neg hs, List.append_nil] at HN
            rw [hs'] at s0
            clear hs hs'
            go_wp2
            go_roundw
            case rel => exact ⟨i + 1, by omega, by go_num, hide ⟨hO.out.bel, hO.out.ks, by rw [HN.out]; exact hO.out.own⟩⟩
            case measure => simp [intOf]; omega
        · obtain rfl : i = A.length := by omega
          go_wp2
          go_ret
          exact ⟨_, rfl, by rw [← HSO.out]; exact hO.out.own.mono (by omega), hO.out.bel⟩
    · rw [List.concat_eq_append] at e
      subst e
      have hlen : (t ++ [x]).length = t.length + 1 := by simp
      obtain ⟨g, cap, cur, e0, hg, hkg, hcap, hcell⟩ := hD.out.own.form (by omega)
      subst e0
      have hxI : I64 x := hD.out.i64 x (by simp)
      have t0 := (hkg.cell t.length).trans (hcell t.length (by omega))
      rw [show (t ++ [x]).getD t.length 0 = x by simp [List.getD_eq_getElem?_getD]] at t0
      have HPOP := hide hD.out.own.pop
      have HTI := hide (show ∀ y ∈ t, I64 y from fun y hy => hD.out.i64 y (List.mem_append_left _ hy))
      rw [hlen] at hcap ⊢
      have hgk2 : 2 * offs seen + (t.length + 1) = gk := by rw [← hlen]; exact hgk
      have hsl := hD.out.S.len
      cases hgx : gotA A x with
      | none =>
        have HG := hide (arGet_none B gn gu gt A x wr HMr.out hxI hgx)
        have HS2 := hide (hD.out.S.skip (fun n e => by rw [hgx] at e; cases e))
        have HBE := hide hD.out.bel
        have HKS := hide hD.out.ks
        clear hD hkg hcell hgx hgk
        go_wp2_with fail
        refine (HG.out).mono ?_
        rintro e w5 ⟨rfl, hb5⟩
        have HB5 := hide (hb5.alloc hb5.size (.cells #[.int .i64 0, .int .i64 0, .int .i64 0] 39))
        clear hb5
        go_wp2
        go_roundg (gk - 1)
        case rel => exact ⟨by omega, seen, t, by omega, hide ⟨HBE.out.trans (HB5.out.mono HBE.out.size), HKS.out.below HB5.out HKS.out.lt, HPOP.out.below HB5.out, HS2.out, HTI.out⟩⟩
        case measure => omega
      | some n =>
        have HG := hide (arGet_some B gn gu gt A x n wr HMr.out hxI hgx)
        obtain ⟨k, rfl, hk, _⟩ := gotA_is hgx
        have hk5 : (k : Int) + 2 - 2 = (k : Int) := by omega
        have hkI : (k : Int) < (A.length : Int) := by omega
        have hkn : ((k : Int) + 2 - 2).toNat = k := by omega
        have s0 := (hD.out.ks.cell k).trans (boolArr_at (by rw [hsl]; exact hk))
        by_cases hs : seen.getD k false = true
        · have HS2 := hide (hD.out.S.skip (fun n _ => by rw [hkn]; exact hs))
          rw [hs] at s0
          have HBE := hide hD.out.bel
          have HKS := hide hD.out.ks
          have hlt := hD.out.ks.lt
          clear hD hkg hcell hgx hgk hs
          go_wp2_with fail
          refine (HG.out).mono ?_
          rintro e w5 ⟨rfl, hb5⟩
          have HB5 := hide (hb5.alloc hb5.size (.cells #[.int .i64 n.var, .int .i64 n.low, .int .i64 n.high] 39))
          have s5 := (HB5.out.cell (p := ⟨gs, k, none⟩) hlt).trans s0
          clear hb5
          go_wp2
          go_roundg (gk - 1)
          case rel => exact ⟨by omega, seen, t, by omega, hide ⟨HBE.out.trans (HB5.out.mono HBE.out.size), HKS.out.below HB5.out HKS.out.lt, HPOP.out.below HB5.out, HS2.out, HTI.out⟩⟩
          case measure => omega
        · have hs' := Bool.eq_false_iff.2 hs
          rw [hs'] at s0
          have HS2 := hide (hD.out.S.mark hgx)
          rw [hkn] at HS2
          have HOF := Lib.hid (offs_set (by rw [hsl]; exact hk) hs')
          obtain ⟨il, ih⟩ := node_small HWF.out hroom hgx
          have HTI2 := hide (show ∀ y ∈ t ++ [n.low, n.high], I64 y from fun y hy => by
            rcases List.mem_append.1 hy with hy | hy
            · exact HTI.out y hy
            · simp only [List.mem_cons, List.not_mem_nil, or_false] at hy
              rcases hy with e | e
              · rw [e]; exact il
              · rw [e]; exact ih)
          have HBE := hide hD.out.bel
          have HKS := hide hD.out.ks
          have hlt := hD.out.ks.lt
          clear hD hkg hcell hgx hgk hs hs' HTI
          go_wp2_with fail
          refine (HG.out).mono ?_
          rintro e w5 ⟨rfl, hb5⟩
          have f5 := (HKS.out.below hb5 hlt).frozen k
          have s5 := (hb5.cell (p := ⟨gs, k, none⟩) hlt).trans s0
          have l5 : gs < w5.heap.size := Nat.lt_of_lt_of_le hlt hb5.size
          have hks := (HKS.out.below hb5 hlt).set_ k (.bool true)
          rw [boolArr_set] at hks
          have hgr := only_setCell (p := ⟨gs, k, none⟩) (World.grownBy.refl w5 (some gs)) (.inl rfl) (.bool true)
          have hps := (HPOP.out.below hb5).kept hgr (.inr (fun e => by have := (World.ownsRow.lt HPOP.out gs e).1; omega))
          have hbs : Below w.heap.size w (w5.setCell ⟨gs, k, none⟩ (.bool true)) := (HBE.out.trans (hb5.mono HBE.out.size)).setCell (p := ⟨gs, k, none⟩) (by omega) _
          have hal : Below (w5.setCell ⟨gs, k, none⟩ (.bool true)).heap.size (w5.setCell ⟨gs, k, none⟩ (.bool true)) (((w5.setCell ⟨gs, k, none⟩ (.bool true)).alloc (.cells #[.int .i64 n.var, .int .i64 n.low, .int .i64 n.high] 39)).alloc (.cells #[.int .i64 n.low, .int .i64 n.high] 3)) :=
            ((Below.refl _ _).alloc (Nat.le_refl _) _).alloc (by simp) _
          have HKA := hide (hks.below hal hks.lt)
          have HOA := hide (hps.below hal)
          have HBA := hide (hbs.trans (hal.mono hbs.size))
          have hz6 : (w5.setCell ⟨gs, k, none⟩ (.bool true)).heap.size = w5.heap.size := by simp [World.setCell]
          have hra := blk_reads (zs := [n.low, n.high]) (Blk.new ((w5.setCell ⟨gs, k, none⟩ (.bool true)).alloc (.cells #[.int .i64 n.var, .int .i64 n.low, .int .i64 n.high] 39)) 3 #[.int .i64 n.low, .int .i64 n.high])
          rw [show ((w5.setCell ⟨gs, k, none⟩ (.bool true)).alloc (.cells #[.int .i64 n.var, .int .i64 n.low, .int .i64 n.high] 39)).heap.size = w5.heap.size + 1 by simp [World.setCell]] at hra
          have HRA := hide hra
          have HLT := hide (World.ownsRow.lt HOA.out)
          have hoff := offs_le seen
          clear hb5 hks hgr hps hbs hal hra
          go_wp2_with (at_builtin; refine appI _ rfl _ _ _ rfl (gs + 1) Tryd.underlying44 _ t rfl HOA.out (w5.heap.size + 1 + 1) (some ⟨w5.heap.size + 1, 0, none⟩) 2 2 [n.low, n.high] rfl HRA.out rfl (by omega) (Nat.le_trans HKA.out.lt (Nat.le_refl _)) ?_; intro v9 w9 ho9 hg9 hor9; have HO9 := hide ho9; have HB9 := hide (HBA.out.grown hg9 HBA.out.size (fun k hk => Nat.le_trans (by omega) (HLT.out k hk).1)); have HK9 := hide (HKA.out.grown hg9 (fun e => by have := (HLT.out gs e.symm).1; omega)); clear ho9 hg9 hor9)
          go_roundg (gk - 1)
          case rel => exact ⟨by omega, _, _, by have := HOF.out; simp; omega, hide ⟨HB9.out, HK9.out, HO9.out, HS2.out, HTI2.out⟩⟩
          case measure => omega
end Go.Proofs.YtfbhmkpihmcegaaDoor
