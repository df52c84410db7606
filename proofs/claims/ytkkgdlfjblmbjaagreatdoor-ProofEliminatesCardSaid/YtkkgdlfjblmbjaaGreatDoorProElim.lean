/-
  proof.Eliminate tells 'elimF'.
-/
import Derived.Test.YtkkgdlfjblmbjaaGreatDoorAdd
import Derived.Test.YtkkgdlfjblmbjaaGreatDoorRefElim
import Derived.Test.YtkkgdlfjblmbjaaGreatDoorResolveB
import Derived.Test.YtkkgdlfjblmbjaaGreatDoorLawForms
namespace Go.Proofs.YtkkgdlfjblmbjaaGreatDoor
open Go.RowKit

def ProElimPost (w : World) (r : ElimRes) (e : Ending) (w' : World) : Prop := ∃ v ve, e = .returned (.tuple #[v, .bool r.1.2, ve]) ∧ Own w' w.heap.size v r.1.1 ∧ IsErr w' ve (r.2, -1) ∧ Below w.heap.size w w'
theorem gr_trans {x y z : World} {r : Option Nat} (h : x.grownBy y r) (h2 : y.grownBy z r) : x.grownBy z r :=
  ⟨h2.os.trans h.os, h2.tape.trans h.tape, h2.output.trans h.output, Nat.le_trans h.size h2.size, fun i hi hne => (h2.block i (Nat.lt_of_lt_of_le hi h.size) hne).trans (h.block i hi hne)⟩
theorem gr_below {B b : Nat} {x y : World} (h : x.grownBy y (some b)) (h1 : B ≤ b) (h2 : B ≤ x.heap.size) : Below B x y :=
  ⟨h.os, h.tape, h.output, h.size, fun i hi => h.block i (Nat.lt_of_lt_of_le hi h2) (fun e => by cases e; omega)⟩

structure AddN (w0 : World) (b : Nat) (now : List (List Int)) (w : World) : Prop where
  mem : ∃ (T : Nat → Prop) (va : Value), AddM w0 b T va now w ∧ ∀ i, T i → w0.heap.size ≤ i
theorem AddN.gr {w0 w : World} {b : Nat} {now : List (List Int)} (h : AddN w0 b now w) : w0.grownBy w (some b) := by
  obtain ⟨_, _, h, _⟩ := h.mem
  exact h.gr
theorem AddN.start {w : World} {b : Nat} (hb : Blk w b 22 #[.slice none 0 0]) : AddN w b [] w :=
  ⟨fun _ => False, _, ⟨ownC_nil _ _ _, hb, fun _ h => h.elim, World.grownBy.refl w _, hb.lt⟩, fun _ h => h.elim⟩
structure PE1 (w0 : World) (b : Nat) (ls : List (List Int)) (k : Nat) (w : World) : Prop where
  mem : ∃ now, AddN w0 b now w ∧ rowsOk now ∧ now.length ≤ k ∧ firstF (ls.drop k) now = firstF ls []
structure PE2 (w0 : World) (b m : Nat) (R : ElimRes) (k : Nat) (vs : Value) (w : World) : Prop where
  mem : ∃ (T : Nat → Prop) (va : Value) (all : List (List Int)) (sz : List Int), AddM w0 b T va all w ∧ Own w w0.heap.size vs sz ∧ rowsOk all ∧ all.length ≤ 2000 ∧ sz.length = k ∧ elimGo (m - k) k all sz = R
structure PE3 (w0 : World) (b : Nat) (v : Int) (all : List (List Int)) (j : Nat) (w : World) : Prop where
  mem : ∃ now, AddN w0 b now w ∧ rowsOk now ∧ now.length ≤ j ∧ keepF v (all.drop j) now = keepF v all []
structure PE4 (w0 : World) (b : Nat) (v : Int) (all : List (List Int)) (p : Nat) (w : World) : Prop where
  mem : ∃ now, AddN w0 b now w ∧ rowsOk now ∧ now.length ≤ 2000 ∧ crossF v all (all.drop p) now = stepF v all
structure PE5 (w0 : World) (b : Nat) (v : Int) (all : List (List Int)) (a : List Int) (now0 : List (List Int)) (q : Nat) (w : World) : Prop where
  mem : ∃ now, AddN w0 b now w ∧ rowsOk now ∧ now.length ≤ 2000 + q ∧ pairF v a (all.drop q) now = pairF v a all now0

/-- The row that was there ahead of a round. -/
structure OldB (wn : World) (b base : Nat) (TA : Nat → Prop) (va : Value) (all : List (List Int)) : Prop where
  own : OwnC wn base TA va all
  ne : va.ownBlock = none ∨ va.ownBlock ≠ some b
  TS : ∀ i, TA i → i < wn.heap.size ∧ some i ≠ some b
theorem OldB.to {wn w : World} {b base : Nat} {TA : Nat → Prop} {va : Value} {all : List (List Int)} (h : OldB wn b base TA va all) (hg : wn.grownBy w (some b)) : OwnC w base TA va all ∧ ∀ i, TA i → i < w.heap.size :=
  ⟨h.own.kept hg h.ne h.TS, fun i hi => Nat.lt_of_lt_of_le (h.TS i hi).1 hg.size⟩
theorem AddM.old {w0 w : World} {b : Nat} {T : Nat → Prop} {va : Value} {all : List (List Int)} (h : AddM w0 b T va all w) (u : Value) : OldB (w.setCell ⟨b, 0, none⟩ u) b w0.heap.size T va all := by
  have hne : va.ownBlock = none ∨ va.ownBlock ≠ some b := .inr (h.own.ne_blk h.blk (by decide))
  have hTS : ∀ i, T i → i < w.heap.size ∧ some i ≠ some b := fun i hi => ⟨h.lT i hi, fun e => (h.TS i hi).2.2 (by cases e; rfl)⟩
  exact ⟨h.own.kept (row := some b) (only_setCell (World.grownBy.refl w _) (.inl rfl) u) hne hTS, hne, fun i hi => ⟨by rw [size_setCell]; exact (hTS i hi).1, (hTS i hi).2⟩⟩
theorem sizes_keptA {wB wo wn wa w1 : World} {b : Nat} {T : Nat → Prop} {vn vs : Value} {now : List (List Int)} (hB : wB.grownBy wn (some b)) (hbB : b < wB.heap.size) (hP : AddM wn b T vn now wa) (hT : ∀ i, T i → wn.heap.size ≤ i) (hs : ∀ k, vs.ownBlock = some k → wB.heap.size ≤ k ∧ k < wn.heap.size) (hg : wa.grownBy w1 vs.ownBlock) : AddM wB b T vn now w1 := by
  have hne : vn.ownBlock = none ∨ vn.ownBlock ≠ vs.ownBlock := by
    cases hv : vn.ownBlock with
    | none => exact .inl rfl
    | some k => exact .inr fun e => by have h1 := (hP.own.lt k hv).1; have h2 := (hs k e.symm).2; omega
  have hnb : some b ≠ vs.ownBlock := fun e => by have := (hs b e.symm).1; omega
  refine ⟨(hP.own.kept hg hne fun i hi => ⟨hP.lT i hi, fun e => ?_⟩).more hB.size, hP.blk.grown hg hnb, fun i hi => ⟨Nat.lt_of_lt_of_le (hP.lT i hi) hg.size, (hP.TS i hi).2⟩, ?_, hbB⟩
  · have h1 := hT i hi
    have h2 := (hs i e.symm).2
    omega
  · have h3 := gr_trans hB hP.gr
    exact ⟨hg.os.trans h3.os, hg.tape.trans h3.tape, hg.output.trans h3.output, Nat.le_trans h3.size hg.size, fun i hi hn => (hg.block i (Nat.lt_of_lt_of_le hi h3.size) (fun e => by have := (hs i e.symm).1; omega)).trans (h3.block i hi hn)⟩

set_option maxRecDepth 100000 in
set_option maxHeartbeats 8000000 in
theorem proElim_ok (m : Nat) (A : Option Addr) (n c : Nat) (ls : List (List Int)) (w : World) (hcl : Cls w w.heap.size A n ls) (hck : checkF m ls = (0, -1)) (hrows : rowsOk ls) (hn : n ≤ 200) (hm : m ≤ 24) :
    Calls Tryz.prog 8 #[.int .i64 m, .slice A n c] w (ProElimPost w (elimF m ls)) := by
  have HK := hide (check_any m A n c ls w hcl)
  rw [hck] at HK
  have HCL := hide hcl
  have HRW := hide hrows
  have HLL := Lib.hid hcl.len
  clear hcl hck hrows
  go_enter Tryz.func8, Tryz.ntmps8
  go_wp2_with fail
  refine (HK.out).mono ?_
  rintro e w1 ⟨ve, rfl, hE, hb1⟩
  obtain rfl : ve = .nilIface := by
    rcases hE with ⟨_, h⟩ | ⟨_, h, _⟩ | ⟨b, _, h, _⟩
    · exact h
    · simp at h
    · simp at h
  clear hE
  have HB1 := hide (hb1.alloc hb1.size (.cells #[.slice none 0 0] 22))
  have HST := hide (AddN.start (Blk.new w1 22 #[.slice none 0 0]))
  have hsb := hb1.size
  clear hb1 HK
  go_wp2
  generalize (w1.alloc (.cells #[.slice none 0 0] 22)) = wB at HB1 HST ⊢
  go_loopw [31] (fun i wr => ∃ k : Nat, k ≤ n ∧ i = .int .i64 k ∧ Hid (PE1 wB w1.heap.size ls k wr)) (fun i _ => n - (intOf i).toNat)
  case atStart => exact ⟨0, Nat.zero_le _, rfl, hide ⟨[], HST.out, (fun c hc => by cases hc), Nat.le_refl _, rfl⟩⟩
  case round =>
    clear HST
    obtain ⟨k, hk, rfl, hR⟩ := hrel
    obtain ⟨now, ⟨T, va, hP, hT⟩, hOK, hlen, hgo⟩ := hR.out.mem
    have HP := hide hP
    have HT := hide hT
    have HOK := hide hOK
    have HGO := hide hgo
    have HLE := Lib.hid hlen
    have HBW := hide (HB1.out.trans (gr_below hP.gr hsb HB1.out.size))
    clear hP hT hOK hgo hR hlen
    by_cases hlt : k < n
    · obtain ⟨ad, A', n', c', rfl, hb, hc, hcc, hi⟩ := HCL.out.at_ hlt
      have hc2 : wr.cell? (ad.add k) = some (.slice A' n' c') := (HBW.out.cell (by rw [block_of_add]; exact hb)).trans hc
      have HKL := Lib.hid (show k < ls.length by rw [HLL.out]; exact hlt)
      have hn' : n' ≤ 1000 := by have := (HRW.out.at_ k).2; rw [hi.len] at this; exact this
      have HON := hide (add_any wB w1.heap.size T va now A' n' c' (ls.getD k []) wr HP.out HOK.out ((hi.below HBW.out).more HBW.out.size) (HRW.out.at_ k).1 hn' (by have := HLE.out; omega))
      have HNX := Lib.hid (firstF_next (now := now) HKL.out)
      have HRN := hide (onceF_row (l := now) HOK.out (HRW.out.at_ k).1)
      have HLN := Lib.hid (onceF_len now (ls.getD k [])).2
      clear hc hi
      generalize onceF now (ls.getD k []) = now2 at HON HNX HRN HLN
      go_wp2_with fail
      refine (HON.out).mono ?_
      rintro e w3 ⟨rfl, T3, v3, hp3, ht3⟩
      have HP3 := hide (show AddN wB w1.heap.size now2 w3 from ⟨T3, v3, hp3, ht3 HT.out⟩)
      clear hp3 ht3
      go_wp2
      go_roundw
      case rel => exact ⟨k + 1, by omega, by go_num, hide ⟨now2, HP3.out, HRN.out, by have := HLN.out; have := HLE.out; omega, by rw [← HNX.out]; exact HGO.out⟩⟩
      case measure => simp [intOf]; omega
    · obtain rfl : k = n := by omega
      have HFI := Lib.hid (show firstF ls [] = now by rw [← HGO.out]; exact firstF_end (Nat.le_of_eq HLL.out))
      obtain ⟨R, HRR⟩ : ∃ R, Hid (elimF m ls = R) := ⟨_, Lib.hid rfl⟩
      have HST := Lib.hid (show elimGo m 0 now [] = R by rw [← HRR.out, elimF, HFI.out])
      go_wp2
      go_loopw [4, 40] (fun vs i wr => ∃ k : Nat, k ≤ m ∧ i = .int .i64 k ∧ Hid (PE2 wB w1.heap.size m R k vs wr)) (fun _ i _ => m - (intOf i).toNat)
      case atStart => exact ⟨0, Nat.zero_le _, rfl, hide ⟨T, va, now, [], HP.out, Own.nil _ _, HOK.out, by have := HLE.out; omega, rfl, HST.out⟩⟩
      case round =>
        clear HP HT HOK HGO HLE HFI HST HRW HBW
        obtain ⟨v, hv, rfl, hR⟩ := hrel
        obtain ⟨wo, rfl⟩ : ∃ wo : World, wo = wr := ⟨_, rfl⟩
        obtain ⟨TA, vA, all, sz, hP, hOS, hOK, hlen, hszl, hgo⟩ := hR.out.mem
        have HPA := hide hP
        have HOS := hide hOS
        have HOK := hide hOK
        have HGO := hide hgo
        have HAL := Lib.hid hlen
        have HSL := Lib.hid hszl
        clear hP hOS hOK hgo hR hlen hszl
        obtain ⟨Aa, ca, rfl, _⟩ := HPA.out.own.form
        obtain ⟨na, HNA⟩ : ∃ na, Hid (all.length = na) := ⟨_, Lib.hid rfl⟩
        rw [HNA.out] at HPA
        have hna : na ≤ 2000 := by have := HNA.out; have := HAL.out; omega
        have a0 := HPA.out.blk.cell 0
        have a1 := HPA.out.blk.frozen 0
        by_cases hvm : v < m
        · have HOB := hide (HPA.out.old (.slice none 0 0))
          have HST := hide (AddN.start (HPA.out.blk.set_ 0 (.slice none 0 0)))
          have HBN := hide (only_setCell (p := ⟨w1.heap.size, 0, none⟩) HPA.out.gr (.inl rfl) (.slice none 0 0))
          have HOSN := hide (HOS.out.setBlk HPA.out.blk (by decide) 0 (.slice none 0 0))
          have HSNE := hide (show ∀ (wx : World), (wo.setCell ⟨w1.heap.size, 0, none⟩ (.slice none 0 0)).grownBy wx (some w1.heap.size) → Own wx wB.heap.size u4 sz from fun wx hg => HOSN.out.kept hg (.inr (HOSN.out.ne_blk (HPA.out.blk.set_ 0 (.slice none 0 0)) (by decide))))
          have HLW := hide (show ∀ k, u4.ownBlock = some k → wB.heap.size ≤ k ∧ k < (wo.setCell ⟨w1.heap.size, 0, none⟩ (.slice none 0 0)).heap.size from HOSN.out.lt)
          have hbB := HPA.out.hb
          go_wp2
          generalize (wo.setCell ⟨w1.heap.size, 0, none⟩ (.slice none 0 0)) = wn at HOB HST HBN HOSN HSNE HLW ⊢
          clear a0 a1
          go_loopw [46] (fun i wi => ∃ j : Nat, j ≤ na ∧ i = .int .i64 j ∧ Hid (PE3 wn w1.heap.size (v : Int) all j wi)) (fun i _ => na - (intOf i).toNat)
          case atStart => exact ⟨0, Nat.zero_le _, rfl, hide ⟨[], HST.out, (fun c hc => by cases hc), Nat.le_refl _, rfl⟩⟩
          case round =>
            clear HST
            obtain ⟨j, hj, rfl, hR⟩ := hrel
            obtain ⟨now, ⟨T, vn, hP, hT⟩, hOKn, hlen, hgo⟩ := hR.out.mem
            have HP := hide hP
            have HT := hide hT
            have HON := hide hOKn
            have HGN := hide hgo
            have HLE := Lib.hid hlen
            clear hP hT hOKn hgo hR hlen
            by_cases hlt : j < na
            · have HPW := hide (HOB.out.to HP.out.gr)
              obtain ⟨ad, A', n', c'', e, hcc, hc3, hic⟩ := HPW.out.1.atN (k := j) (by rw [HNA.out]; exact hlt)
              cases e
              have HIC := hide (hic.ints HPW.out.2)
              have hn' : n' ≤ 1000 := by have := (HOK.out.at_ j).2; rw [HIC.out.len] at this; exact this
              have HH1 := hide (contains_any ((v : Int) + 1) A' n' c'' (all.getD j []) wr HIC.out)
              have HH2 := hide (contains_any (-(v : Int) - 1) A' n' c'' (all.getD j []) wr HIC.out)
              have HKL := Lib.hid (show j < all.length by rw [HNA.out]; exact hlt)
              have HNX := Lib.hid (keepF_next (v := (v : Int)) (now := now) HKL.out)
              have HRC := hide (HOK.out.at_ j).1
              clear hic
              generalize all.getD j [] = zs at HIC HH1 HH2 HNX HRC
              by_cases h1 : (v : Int) + 1 ∈ zs
              · have HK := Lib.hid (keepOne_no (v := (v : Int)) (now := now) (a := zs) (fun h => h.1 h1))
                rw [decide_eq_true h1] at HH1
                go_wp2_with fail
                refine (HH1.out).mono ?_
                rintro e w3 ⟨rfl, rfl⟩
                go_wp2
                go_roundw
                case rel => exact ⟨j + 1, by omega, by go_num, hide ⟨now, ⟨T, vn, HP.out, HT.out⟩, HON.out, by have := HLE.out; omega, by rw [← HGN.out, HNX.out, HK.out]⟩⟩
                case measure => simp [intOf]; omega
              · rw [decide_eq_false h1] at HH1
                by_cases h2 : -(v : Int) - 1 ∈ zs
                · have HK := Lib.hid (keepOne_no (v := (v : Int)) (now := now) (a := zs) (fun h => h.2 h2))
                  rw [decide_eq_true h2] at HH2
                  go_wp2_with fail
                  refine (HH1.out).mono ?_
                  rintro e w3 ⟨rfl, rfl⟩
                  go_wp2_with fail
                  refine (HH2.out).mono ?_
                  rintro e w3 ⟨rfl, rfl⟩
                  go_wp2
                  go_roundw
                  case rel => exact ⟨j + 1, by omega, by go_num, hide ⟨now, ⟨T, vn, HP.out, HT.out⟩, HON.out, by have := HLE.out; omega, by rw [← HGN.out, HNX.out, HK.out]⟩⟩
                  case measure => simp [intOf]; omega
                · have HK := Lib.hid (keepOne_yes (v := (v : Int)) (now := now) (a := zs) ⟨h1, h2⟩)
                  rw [decide_eq_false h2] at HH2
                  have HOC := hide (add_any wn w1.heap.size T vn now A' n' c'' zs wr HP.out HON.out HIC.out HRC.out hn' (by have := HLE.out; omega))
                  have HRN := hide (onceF_row (l := now) HON.out HRC.out)
                  have HLN := Lib.hid (onceF_len now zs).2
                  clear h1 h2
                  generalize onceF now zs = now2 at HOC HK HRN HLN
                  go_wp2_with fail
                  refine (HH1.out).mono ?_
                  rintro e w3 ⟨rfl, rfl⟩
                  go_wp2_with fail
                  refine (HH2.out).mono ?_
                  rintro e w3 ⟨rfl, rfl⟩
                  go_wp2_with fail
                  refine (HOC.out).mono ?_
                  rintro e w3 ⟨rfl, T3, v3, hp3, ht3⟩
                  have HP3 := hide (show AddN wn w1.heap.size now2 w3 from ⟨T3, v3, hp3, ht3 HT.out⟩)
                  clear hp3 ht3
                  go_wp2
                  go_roundw
                  case rel => exact ⟨j + 1, by omega, by go_num, hide ⟨now2, HP3.out, HRN.out, by have := HLN.out; have := HLE.out; omega, by rw [← HGN.out, HNX.out, HK.out]⟩⟩
                  case measure => simp [intOf]; omega
            · obtain rfl : j = na := by omega
              have HKE := Lib.hid (show crossF (v : Int) all (all.drop 0) now = stepF (v : Int) all by
                rw [stepF, ← HGN.out, keepF_end (Nat.le_of_eq HNA.out)]; rfl)
              obtain ⟨f, hf⟩ : ∃ f, m - v = f + 1 := ⟨m - v - 1, by omega⟩
              have hf2 : m - (v + 1) = f := by omega
              go_wp2
              go_loopw [4, 69] (fun v4 i wi => ∃ p : Nat, p ≤ j ∧ v4 = u4 ∧ i = .int .i64 p ∧ Hid (PE4 wn w1.heap.size (v : Int) all p wi)) (fun _ i _ => j - (intOf i).toNat)
              case atStart => exact ⟨0, Nat.zero_le _, rfl, rfl, hide ⟨now, ⟨T, vn, HP.out, HT.out⟩, HON.out, by have := HLE.out; omega, HKE.out⟩⟩
              case round =>
                clear HP HT HON HGN HLE HKE
                obtain ⟨p, hp, rfl, rfl, hR⟩ := hrel
                obtain ⟨now, hPN, hOKn, hlen, hgo⟩ := hR.out.mem
                have HPN := hide hPN
                have HON := hide hOKn
                have HGN := hide hgo
                have HLE := Lib.hid hlen
                clear hPN hOKn hgo hR hlen
                by_cases hpl : p < j
                · have HPW := hide (HOB.out.to HPN.out.gr)
                  obtain ⟨ad, A1, n1, c1, e, hc1, hcc1, hi1⟩ := HPW.out.1.atN (k := p) (by rw [HNA.out]; exact hpl)
                  cases e
                  have HPN0 := hide (HOB.out.own.atN (k := p) (by rw [HNA.out]; exact hpl))
                  have hn1 : n1 ≤ 1000 := by have := (HOK.out.at_ p).2; rw [(hi1.ints HPW.out.2).len] at this; exact this
                  have HL1 := hide (HOK.out.at_ p).1
                  have HCX := Lib.hid (crossF_next (v := (v : Int)) (all := all) (now := now) (show p < all.length by rw [HNA.out]; exact hpl))
                  have HI1 := hide (show ∀ wx : World, wn.grownBy wx (some w1.heap.size) → Ints wx wx.heap.size A1 n1 (all.getD p []) from fun wx hg => by
                    obtain ⟨ad0, A0, n0, c0, e0, h0, _, hi0⟩ := HPN0.out
                    cases e0
                    have hh := (HOB.out.to HPN.out.gr).1.atN (k := p) (by rw [HNA.out]; exact hpl)
                    obtain ⟨ad2, A2, n2, c2, e2, h2, _, hi2⟩ := (HOB.out.to hg).1.atN (k := p) (by rw [HNA.out]; exact hpl)
                    cases e2
                    have e9 : wx.cell? (ad.add p) = wr.cell? (ad.add p) := by
                      have hbk := HOB.out.ne
                      have q1 : (ad.add p).block < wn.heap.size := lt_of_cell h0
                      have q2 : some (ad.add p).block ≠ some w1.heap.size := fun e => by
                        rcases hbk with h | h
                        · cases h
                        · rw [block_of_add] at e; exact h e
                      exact (World.cell?_of_block (hg.block _ q1 q2)).trans (World.cell?_of_block (HPN.out.gr.block _ q1 q2)).symm
                    rw [h2, hc1] at e9
                    cases e9
                    exact hi2.ints (HOB.out.to hg).2)
                  clear hi1
                  generalize all.getD p [] = a at HI1 HL1 HCX
                  go_wp2
                  go_loopw [75] (fun i wi => ∃ q : Nat, q ≤ j ∧ i = .int .i64 q ∧ Hid (PE5 wn w1.heap.size (v : Int) all a now q wi)) (fun i _ => j - (intOf i).toNat)
                  case atStart => exact ⟨0, Nat.zero_le _, rfl, hide ⟨now, HPN.out, HON.out, by have := HLE.out; omega, rfl⟩⟩
                  case round =>
                    clear HPN HON HLE hc1 HPN0 HPW
                    obtain ⟨q, hq, rfl, hR⟩ := hrel
                    obtain ⟨now5, ⟨T, vn, hP, hT⟩, hOK5, hlen, hgo⟩ := hR.out.mem
                    have HP := hide hP
                    have HT := hide hT
                    have HON := hide hOK5
                    have HG5 := hide hgo
                    have HLE := Lib.hid hlen
                    clear hP hT hOK5 hgo hR hlen
                    by_cases hql : q < j
                    · have HPW := hide (HOB.out.to HP.out.gr)
                      obtain ⟨ad2, A2, n2, c2, e, hc2, hcc2, hi2⟩ := HPW.out.1.atN (k := q) (by rw [HNA.out]; exact hql)
                      cases e
                      have HI2 := hide (hi2.ints HPW.out.2)
                      have hn2 : n2 ≤ 1000 := by have := (HOK.out.at_ q).2; rw [HI2.out.len] at this; exact this
                      have HL2 := hide (HOK.out.at_ q).1
                      have HNX := Lib.hid (pairF_next (v := (v : Int)) (a := a) (now := now5) (show q < all.length by rw [HNA.out]; exact hql))
                      clear hi2
                      generalize all.getD q [] = b at HI2 HL2 HNX
                      have HRS := hide (proResolve_any (v : Int) A1 A2 n1 c1 n2 c2 a b wr (HI1.out wr HP.out.gr) HI2.out HL1.out HL2.out hn1 hn2)
                      have HRL := hide (resF_row HL1.out HL2.out (v : Int))
                      have HYE := hide (fun q (e : resF a b (v : Int) = (q, 0)) => pairOne_yes (now := now5) (q := q) e)
                      have HNO := hide (fun q c (e : resF a b (v : Int) = (q, c)) => pairOne_no (now := now5) (q := q) (c := c) e)
                      generalize resF a b (v : Int) = r at HRS HRL HYE HNO
                      obtain ⟨zq, cd⟩ := r
                      go_wp2_with fail
                      refine (HRS.out).mono ?_
                      rintro e w3 ⟨vw, vx, rfl, how, hie, hb3⟩
                      have HM3 := hide (HP.out.below hb3)
                      rcases hie with ⟨e0, rfl⟩ | ⟨_, hcd1, hcd2, rfl⟩ | ⟨_, _, _, _, h, _⟩
                      · obtain rfl : cd = 0 := (Prod.mk.inj e0).1
                        have HK := Lib.hid (HYE.out zq rfl)
                        have HRN := hide (onceF_row (l := now5) HON.out HRL.out.1)
                        have HLN := Lib.hid (onceF_len now5 zq).2
                        obtain ⟨Aw, cw, rfl, _⟩ := how.form
                        have HOQ := hide (add_any wn w1.heap.size T vn now5 Aw zq.length cw zq w3 HM3.out HON.out how.ints HRL.out.1 HRL.out.2 (by have := HLE.out; omega))
                        clear how hb3
                        generalize onceF now5 zq = now6 at HOQ HK HRN HLN
                        generalize zq.length = nq at HOQ ⊢
                        go_wp2_with fail
                        refine (HOQ.out).mono ?_
                        rintro e w4 ⟨rfl, T4, v4, hp4, ht4⟩
                        have HP4 := hide (show AddN wn w1.heap.size now6 w4 from ⟨T4, v4, hp4, ht4 HT.out⟩)
                        clear hp4 ht4
                        go_wp2
                        go_roundw
                        case rel => exact ⟨q + 1, by omega, by go_num, hide ⟨now6, HP4.out, HRN.out, by have := HLN.out; have := HLE.out; omega, by rw [← HG5.out, HNX.out, HK.out]⟩⟩
                        case measure => simp [intOf]; omega
                      · have h0 : cd ≠ 0 := by have : (1 : Int) ≤ cd := hcd1; omega
                        have HK := Lib.hid (HNO.out zq cd rfl h0)
                        clear how hb3
                        go_wp2
                        go_roundw
                        case rel => exact ⟨q + 1, by omega, by go_num, hide ⟨now5, ⟨T, vn, HM3.out, HT.out⟩, HON.out, by have := HLE.out; omega, by rw [← HG5.out, HNX.out, HK.out]⟩⟩
                        case measure => simp [intOf]; omega
                      · exact absurd (show (0 : Int) ≤ -1 from h) (by decide)
                    · obtain rfl : q = j := by omega
                      have HPE := Lib.hid (show pairF (v : Int) a all now = now5 by rw [← HG5.out]; exact pairF_end (Nat.le_of_eq HNA.out))
                      have HCE := Lib.hid (show stepF (v : Int) all = crossF (v : Int) all (all.drop (p + 1)) now5 by rw [← HGN.out, HCX.out, HPE.out])
                      have n0 := HP.out.blk.cell 0
                      obtain ⟨An, cn, rfl, _⟩ := HP.out.own.form
                      obtain ⟨nn, HNN⟩ : ∃ nn, Hid (now5.length = nn) := ⟨_, Lib.hid rfl⟩
                      rw [HNN.out] at HP n0
                      have hnn : nn ≤ 5000 := by have := HNN.out; have := HLE.out; omega
                      by_cases hbig : 2000 < nn
                      · have hgo2 := HGO.out
                        rw [hf, elimGo_big (by rw [HCE.out]; have := crossF_len (v : Int) all (all.drop (p + 1)) now5; have := HNN.out; omega)] at hgo2
                        have HRE := Lib.hid (HRR.out.trans hgo2.symm)
                        have HBF := hide (HB1.out.trans (gr_below (gr_trans HBN.out HP.out.gr) hsb HB1.out.size))
                        clear hgo2
                        go_wp2
                        go_ret3
                        rw [HRE.out]
                        exact ⟨_, _, rfl, Own.nil _ _, isErr_code (c := 4) (by omega) (by omega), HBF.out⟩
                      · go_wp2
                        go_roundw
                        case rel => exact ⟨p + 1, by omega, rfl, by go_num, hide ⟨now5, ⟨T, _, HP.out, HT.out⟩, HON.out, by have := HNN.out; omega, HCE.out.symm⟩⟩
                        case measure => simp [intOf]; omega
                · obtain rfl : p = j := by omega
                  have HSF := Lib.hid (show stepF (v : Int) all = now by rw [← HGN.out]; exact crossF_end (Nat.le_of_eq HNA.out))
                  obtain ⟨T, vn, hP, hT⟩ := HPN.out.mem
                  have HP := hide hP
                  have HT := hide hT
                  have HOW := hide (HSNE.out wr hP.gr)
                  clear hP hT HPN
                  obtain ⟨An, cn, rfl, _⟩ := HP.out.own.form
                  obtain ⟨nn, HNN⟩ : ∃ nn, Hid (now.length = nn) := ⟨_, Lib.hid rfl⟩
                  have hnn : nn ≤ 2000 := by have := HNN.out; have := HLE.out; omega
                  have hgo2 := HGO.out
                  rw [hf, elimGo_next (by rw [HSF.out, HNN.out]; omega), HSF.out, HNN.out] at hgo2
                  have HGO2 := Lib.hid hgo2
                  clear hgo2
                  rw [HNN.out] at HP
                  have n0 := HP.out.blk.cell 0
                  have HPB := hide ((Below.refl wr.heap.size wr).alloc (Nat.le_refl _) (.cells #[.int .i64 (nn : Int)] 3))
                  have HOA := hide (HOW.out.alloc (.cells #[.int .i64 (nn : Int)] 3))
                  have HPX := hide (HP.out.below HPB.out)
                  have HCA := Lib.hid (show (wr.alloc (.cells #[.int .i64 (nn : Int)] 3)).cell? ⟨wr.heap.size, 0, none⟩ = some (.int .i64 (nn : Int)) by simp)
                  have HXI := Lib.hid (show I64 (nn : Int) by unfold I64; omega)
                  have HBB := Lib.hid (Nat.le_trans HBN.out.size HPX.out.gr.size)
                  go_wp2_with (at_builtin; refine app1 _ rfl _ _ 28 rfl wB.heap.size Tryz.underlying28 _ sz rfl HOA.out wr.heap.size 1 (nn : Int) rfl HCA.out HXI.out (by have := HSL.out; omega) HBB.out ?_; intro v1 w9 ho1 hg1 hor; have HO1 := hide ho1; have HG1 := hide hg1; clear ho1 hg1 hor)
                  have HPZ := hide (sizes_keptA (wo := wo) HBN.out hbB HPX.out HT.out HLW.out HG1.out)
                  clear HG1 HPX
                  go_roundw
                  case rel => exact ⟨v + 1, by omega, by go_num, hide ⟨T, _, now, sz ++ [(nn : Int)], HPZ.out, HO1.out, HON.out, by have := HNN.out; omega, by rw [List.length_append, List.length_singleton, HSL.out], by rw [hf2]; exact HGO2.out⟩⟩
                  case measure => simp [intOf]; omega
        · obtain rfl : v = m := by omega
          have HRE := Lib.hid (show elimF v ls = ((sz, all.isEmpty), 0) by rw [HRR.out, ← HGO.out, Nat.sub_self, elimGo])
          have HBF := hide (HB1.out.trans (gr_below HPA.out.gr hsb HB1.out.size))
          rcases Nat.eq_zero_or_pos na with h0 | h0
          · subst h0
            have HE2 := Lib.hid (show all.isEmpty = true by rw [List.eq_nil_of_length_eq_zero HNA.out]; rfl)
            go_wp2
            go_quiet (fail)
            go_wp2
            go_ret3
            rw [HRE.out, HE2.out]
            exact ⟨_, _, rfl, HOS.out.more HB1.out.size, .inl ⟨rfl, rfl⟩, below_drewN HBF.out _⟩
          · have HE2 := Lib.hid (show all.isEmpty = false by
              cases all with
              | nil => have := HNA.out; simp at this; omega
              | cons _ _ => rfl)
            have hnb : ((na : Int) == 0) = false := by simp; omega
            go_wp2
            go_quiet (fail)
            go_wp2
            go_ret3
            rw [HRE.out, HE2.out]
            exact ⟨_, _, rfl, HOS.out.more HB1.out.size, .inl ⟨rfl, rfl⟩, below_drewN HBF.out _⟩
end Go.Proofs.YtkkgdlfjblmbjaaGreatDoor
