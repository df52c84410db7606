/-
  The reference's Eliminate tells 'elimF'.
-/
import Derived.Test.YtkkgdlfjblmbjaaGreatDoorOnce
namespace Go.Proofs.YtkkgdlfjblmbjaaGreatDoor
open Go.RowKit

def RefElimPost (w : World) (r : ElimRes) (e : Ending) (w' : World) : Prop := ∃ v, e = .returned (.tuple #[v, .bool r.1.2, .int .i64 r.2]) ∧ Own w' w.heap.size v r.1.1 ∧ Below w.heap.size w w'
theorem ProF.start (w : World) : ProF w (fun _ => False) (.slice none 0 0) [] w := ⟨ownC_nil _ _ _, fun _ h => h.elim, Below.refl _ _⟩
/-- Rows that lie behind w0 alone. -/
structure ProN (w0 : World) (v : Value) (now : List (List Int)) (w : World) : Prop where
  mem : ∃ T : Nat → Prop, ProF w0 T v now w ∧ ∀ i, T i → w0.heap.size ≤ i
theorem ProN.start (w : World) : ProN w (.slice none 0 0) [] w := ⟨_, .start w, fun _ h => h.elim⟩
structure El1 (w0 : World) (ls : List (List Int)) (k : Nat) (va : Value) (w : World) : Prop where
  mem : ∃ now, ProN w0 va now w ∧ rowsOk now ∧ now.length ≤ k ∧ firstF (ls.drop k) now = firstF ls []
structure El2 (w0 : World) (m : Nat) (R : ElimRes) (k : Nat) (va vs : Value) (w : World) : Prop where
  mem : ∃ (T : Nat → Prop) (all : List (List Int)) (sz : List Int), ProF w0 T va all w ∧ Own w w0.heap.size vs sz ∧ rowsOk all ∧ all.length ≤ 2000 ∧ sz.length = k ∧ elimGo (m - k) k all sz = R
structure El3 (w0 : World) (v : Int) (all : List (List Int)) (j : Nat) (vn : Value) (w : World) : Prop where
  mem : ∃ now, ProN w0 vn now w ∧ rowsOk now ∧ now.length ≤ j ∧ keepF v (all.drop j) now = keepF v all []
structure El4 (w0 : World) (v : Int) (all : List (List Int)) (p : Nat) (vn : Value) (w : World) : Prop where
  mem : ∃ now, ProN w0 vn now w ∧ rowsOk now ∧ now.length ≤ 2000 + 2000 * p ∧ crossF v all (all.drop p) now = stepF v all
structure El5 (w0 : World) (v : Int) (all : List (List Int)) (a : List Int) (now0 : List (List Int)) (p q : Nat) (vn : Value) (w : World) : Prop where
  mem : ∃ now, ProN w0 vn now w ∧ rowsOk now ∧ now.length ≤ 2000 + 2000 * p + q ∧ pairF v a (all.drop q) now = pairF v a all now0

theorem hPN_bel {w0 w : World} {v : Value} {now : List (List Int)} (h : ProN w0 v now w) : Below w0.heap.size w0 w := by
  obtain ⟨T, h, _⟩ := h.mem
  exact h.bel
/-- A row behind wo stays, where the row of sizes (ahead of wo) grows. -/
theorem sizes_kept {w wo wa w1 : World} {T : Nat → Prop} {vn vs : Value} {now : List (List Int)} (hP : ProF wo T vn now wa) (hT : ∀ i, T i → wo.heap.size ≤ i) (hb : Below w.heap.size w wo) (hs : ∀ k, vs.ownBlock = some k → w.heap.size ≤ k ∧ k < wo.heap.size) (hg : wa.grownBy w1 vs.ownBlock) : ProF w T vn now w1 := by
  have hne : vn.ownBlock = none ∨ vn.ownBlock ≠ vs.ownBlock := by
    cases hv : vn.ownBlock with
    | none => exact .inl rfl
    | some k => exact .inr fun e => by have h1 := (hP.own.lt k hv).1; have h2 := (hs k e.symm).2; omega
  refine ⟨(hP.own.kept hg hne fun i hi => ⟨hP.lT i hi, fun e => ?_⟩).more hb.size, fun i hi => ⟨Nat.lt_of_lt_of_le (hP.lT i hi) hg.size, (hP.TS i hi).2⟩, ?_⟩
  · have h1 := hT i hi
    have h2 := (hs i e.symm).2
    omega
  · exact (hb.trans (hP.bel.mono hb.size)).grown hg (hb.trans (hP.bel.mono hb.size)).size (fun k hk => (hs k hk).1)
theorem GlobT.of {w w' : World} (h : GlobT w) (hb : Below w.heap.size w w') : GlobT w' := h.below hb

set_option maxRecDepth 100000 in
set_option maxHeartbeats 8000000 in
theorem refElim_any (m : Nat) (A : Option Addr) (n c : Nat) (ls : List (List Int)) (w : World) (hG : GlobT w) (hcl : Cls w w.heap.size A n ls) (hrows : rowsOk ls) (hn : n ≤ 200) (hm : m ≤ 24) :
    Calls Tryz.prog 6 #[.int .i64 m, .slice A n c] w (RefElimPost w (elimF m ls)) := by
  have HCL := hide hcl
  have HG := hide hG
  have HRW := hide hrows
  have HLL := Lib.hid hcl.len
  clear hcl hG hrows
  go_enter Tryz.func6, Tryz.ntmps6
  go_wp2
  go_loopw [7, 23] (fun va i wr => ∃ k : Nat, k ≤ n ∧ i = .int .i64 k ∧ Hid (El1 w ls k va wr)) (fun _ i _ => n - (intOf i).toNat)
  case atStart => exact ⟨0, Nat.zero_le _, rfl, hide ⟨[], .start w, (fun c hc => by cases hc), Nat.le_refl _, rfl⟩⟩
  case round =>
    obtain ⟨k, hk, rfl, hR⟩ := hrel
    obtain ⟨now, ⟨T, hP, hT⟩, hOK, hlen, hgo⟩ := hR.out.mem
    have HP := hide hP
    have HT := hide hT
    have HOK := hide hOK
    have HGO := hide hgo
    have HLE := Lib.hid hlen
    clear hP hT hOK hgo hR hlen
    by_cases hlt : k < n
    · obtain ⟨ad, A', n', c', rfl, hb, hc, hcc, hi⟩ := HCL.out.at_ hlt
      have hc2 : wr.cell? (ad.add k) = some (.slice A' n' c') := (HP.out.bel.cell (by rw [block_of_add]; exact hb)).trans hc
      have HKL := Lib.hid (show k < ls.length by rw [HLL.out]; exact hlt)
      have HON := hide (once_any w T u7 now A' n' c' (ls.getD k []) wr HP.out (HG.out.below HP.out.bel) HOK.out ((hi.below HP.out.bel).more HP.out.bel.size) (HRW.out.at_ k).1 (by have := HLE.out; omega))
      have HNX := Lib.hid (firstF_next (now := now) HKL.out)
      have HRN := hide (onceF_row (l := now) HOK.out (HRW.out.at_ k).1)
      have HLN := Lib.hid (onceF_len now (ls.getD k [])).2
      clear hc hi
      generalize onceF now (ls.getD k []) = now2 at HON HNX HRN HLN
      go_wp2_with fail
      refine (HON.out).mono ?_
      rintro e w3 ⟨T3, v3, rfl, hp3, ht3⟩
      have HP3 := hide (show ProN w v3 now2 w3 from ⟨T3, hp3, ht3 HT.out⟩)
      clear hp3 ht3
      go_wp2
      go_roundw
      case rel => exact ⟨k + 1, by omega, by go_num, hide ⟨now2, HP3.out, HRN.out, by have := HLN.out; have := HLE.out; omega, by rw [← HNX.out]; exact HGO.out⟩⟩
      case measure => simp [intOf]; omega
    · obtain rfl : k = n := by omega
      have HFI := Lib.hid (show firstF ls [] = now by rw [← HGO.out]; exact firstF_end (Nat.le_of_eq HLL.out))
      obtain ⟨R, HRR⟩ : ∃ R, Hid (elimF m ls = R) := ⟨_, Lib.hid rfl⟩
      have HST := Lib.hid (show elimGo m 0 now [] = R by rw [← HRR.out, elimF, HFI.out])
      go_wp2
      go_loopw [7, 10, 32] (fun va vs i wr => ∃ k : Nat, k ≤ m ∧ i = .int .i64 k ∧ Hid (El2 w m R k va vs wr)) (fun _ _ i _ => m - (intOf i).toNat)
      case atStart => exact ⟨0, Nat.zero_le _, rfl, hide ⟨T, now, [], HP.out, Own.nil _ _, HOK.out, by have := HLE.out; omega, rfl, HST.out⟩⟩
      case round =>
        clear HP HT HOK HGO HLE HFI HST HRW
        obtain ⟨v, hv, rfl, hR⟩ := hrel
        obtain ⟨wo, rfl⟩ : ∃ wo : World, wo = wr := ⟨_, rfl⟩
        obtain ⟨TA, all, sz, hP, hOS, hOK, hlen, hszl, hgo⟩ := hR.out.mem
        have HPA := hide hP
        have HOS := hide hOS
        have HOK := hide hOK
        have HGO := hide hgo
        have HAL := Lib.hid hlen
        have HSL := Lib.hid hszl
        clear hP hOS hOK hgo hR hlen hszl
        obtain ⟨Aa, ca, rfl, _⟩ := HPA.out.own.form
        obtain ⟨na, HNA⟩ : ∃ na, Hid (all.length = na) := ⟨_, Lib.hid rfl⟩
        rw [HNA.out] at HPA ⊢
        have hna : na ≤ 2000 := by have := HNA.out; have := HAL.out; omega
        by_cases hvm : v < m
        · have HGW := hide (HG.out.below HPA.out.bel)
          go_wp2
          go_loopw [12, 37] (fun vn i wi => ∃ j : Nat, j ≤ na ∧ i = .int .i64 j ∧ Hid (El3 wo (v : Int) all j vn wi)) (fun _ i _ => na - (intOf i).toNat)
          case atStart => exact ⟨0, Nat.zero_le _, rfl, hide ⟨[], .start wo, (fun c hc => by cases hc), Nat.le_refl _, rfl⟩⟩
          case round =>
            obtain ⟨j, hj, rfl, hR⟩ := hrel
            obtain ⟨now, ⟨T, hP, hT⟩, hOKn, hlen, hgo⟩ := hR.out.mem
            have HP := hide hP
            have HT := hide hT
            have HON := hide hOKn
            have HGN := hide hgo
            have HLE := Lib.hid hlen
            clear hP hT hOKn hgo hR hlen
            by_cases hlt : j < na
            · have HPW := hide (HPA.out.below HP.out.bel)
              obtain ⟨ad, A', n', c'', e, hcc, hc3, hic⟩ := HPW.out.own.atN (k := j) (by rw [HNA.out]; exact hlt)
              cases e
              have HIC := hide (hic.ints HPW.out.lT)
              have HH1 := hide (has_any ((v : Int) + 1) A' n' c'' (all.getD j []) wr HIC.out)
              have HH2 := hide (has_any (-(v : Int) - 1) A' n' c'' (all.getD j []) wr HIC.out)
              have HKL := Lib.hid (show j < all.length by rw [HNA.out]; exact hlt)
              have HNX := Lib.hid (keepF_next (v := (v : Int)) (now := now) HKL.out)
              have HRC := hide (HOK.out.at_ j).1
              clear hic
              generalize all.getD j [] = zs at HIC HH1 HH2 HNX HRC
              by_cases h1 : (v : Int) + 1 ∈ zs
              · have HK := Lib.hid (keepOne_no (v := (v : Int)) (now := now) (a := zs) (fun h => h.1 h1))
                rw [decide_eq_true h1] at HH1
                go_wp2_with fail
                refine (HH1.out).mono ?_
                rintro e w3 ⟨rfl, rfl⟩
                go_wp2
                go_roundw
                case rel => exact ⟨j + 1, by omega, by go_num, hide ⟨now, ⟨T, HP.out, HT.out⟩, HON.out, by have := HLE.out; omega, by rw [← HGN.out, HNX.out, HK.out]⟩⟩
                case measure => simp [intOf]; omega
              · rw [decide_eq_false h1] at HH1
                by_cases h2 : -(v : Int) - 1 ∈ zs
                · have HK := Lib.hid (keepOne_no (v := (v : Int)) (now := now) (a := zs) (fun h => h.2 h2))
                  rw [decide_eq_true h2] at HH2
                  go_wp2_with fail
                  refine (HH1.out).mono ?_
                  rintro e w3 ⟨rfl, rfl⟩
                  go_wp2_with fail
                  refine (HH2.out).mono ?_
                  rintro e w3 ⟨rfl, rfl⟩
                  go_wp2
                  go_roundw
                  case rel => exact ⟨j + 1, by omega, by go_num, hide ⟨now, ⟨T, HP.out, HT.out⟩, HON.out, by have := HLE.out; omega, by rw [← HGN.out, HNX.out, HK.out]⟩⟩
                  case measure => simp [intOf]; omega
                · have HK := Lib.hid (keepOne_yes (v := (v : Int)) (now := now) (a := zs) ⟨h1, h2⟩)
                  rw [decide_eq_false h2] at HH2
                  have HOC := hide (once_any wo T u12 now A' n' c'' zs wr HP.out (HGW.out.below HP.out.bel) HON.out HIC.out HRC.out (by have := HLE.out; omega))
                  have HRN := hide (onceF_row (l := now) HON.out HRC.out)
                  have HLN := Lib.hid (onceF_len now zs).2
                  clear h1 h2
                  generalize onceF now zs = now2 at HOC HK HRN HLN
                  go_wp2_with fail
                  refine (HH1.out).mono ?_
                  rintro e w3 ⟨rfl, rfl⟩
                  go_wp2_with fail
                  refine (HH2.out).mono ?_
                  rintro e w3 ⟨rfl, rfl⟩
                  go_wp2_with fail
                  refine (HOC.out).mono ?_
                  rintro e w3 ⟨T3, v3, rfl, hp3, ht3⟩
                  have HP3 := hide (show ProN wo v3 now2 w3 from ⟨T3, hp3, ht3 HT.out⟩)
                  clear hp3 ht3
                  go_wp2
                  go_roundw
                  case rel => exact ⟨j + 1, by omega, by go_num, hide ⟨now2, HP3.out, HRN.out, by have := HLN.out; have := HLE.out; omega, by rw [← HGN.out, HNX.out, HK.out]⟩⟩
                  case measure => simp [intOf]; omega
            · obtain rfl : j = na := by omega
              have HKE := Lib.hid (show crossF (v : Int) all (all.drop 0) now = stepF (v : Int) all by
                rw [stepF, ← HGN.out, keepF_end (Nat.le_of_eq HNA.out)]; rfl)
              go_wp2
              go_loopw [12, 60] (fun vn i wi => ∃ p : Nat, p ≤ j ∧ i = .int .i64 p ∧ Hid (El4 wo (v : Int) all p vn wi)) (fun _ i _ => j - (intOf i).toNat)
              case atStart => exact ⟨0, Nat.zero_le _, rfl, hide ⟨now, ⟨T, HP.out, HT.out⟩, HON.out, by have := HLE.out; omega, HKE.out⟩⟩
              case round =>
                clear HP HT HON HGN HLE HKE
                obtain ⟨p, hp, rfl, hR⟩ := hrel
                obtain ⟨now, hPN, hOKn, hlen, hgo⟩ := hR.out.mem
                have HPN := hide hPN
                have HON := hide hOKn
                have HGN := hide hgo
                have HLE := Lib.hid hlen
                clear hPN hOKn hgo hR hlen
                by_cases hpl : p < j
                · obtain ⟨ad, A1, n1, c1, e, hc1, hcc1, hi1⟩ := HPA.out.own.atN (k := p) (by rw [HNA.out]; exact hpl)
                  cases e
                  have HI1 := hide (hi1.ints HPA.out.lT)
                  have hn1 : n1 ≤ 1000 := by have := (HOK.out.at_ p).2; rw [HI1.out.len] at this; exact this
                  have HL1 := hide (HOK.out.at_ p).1
                  have HCX := Lib.hid (crossF_next (v := (v : Int)) (all := all) (now := now) (show p < all.length by rw [HNA.out]; exact hpl))
                  have hbw := hPN_bel HPN.out
                  have hc1' : wr.cell? (ad.add p) = some (.slice A1 n1 c1) := (hbw.cell (lt_of_cell hc1)).trans hc1
                  clear hi1 hc1 hbw
                  generalize all.getD p [] = a at HI1 HL1 HCX
                  go_wp2
                  go_loopw [12, 66] (fun vn i wi => ∃ q : Nat, q ≤ j ∧ i = .int .i64 q ∧ Hid (El5 wo (v : Int) all a now p q vn wi)) (fun _ i _ => j - (intOf i).toNat)
                  case atStart => exact ⟨0, Nat.zero_le _, rfl, hide ⟨now, HPN.out, HON.out, by have := HLE.out; omega, rfl⟩⟩
                  case round =>
                    clear HPN HON HLE hc1'
                    obtain ⟨q, hq, rfl, hR⟩ := hrel
                    obtain ⟨now5, ⟨T, hP, hT⟩, hOK5, hlen, hgo⟩ := hR.out.mem
                    have HP := hide hP
                    have HT := hide hT
                    have HON := hide hOK5
                    have HG5 := hide hgo
                    have HLE := Lib.hid hlen
                    clear hP hT hOK5 hgo hR hlen
                    by_cases hql : q < j
                    · obtain ⟨ad2, A2, n2, c2, e, hc2, hcc2, hi2⟩ := HPA.out.own.atN (k := q) (by rw [HNA.out]; exact hql)
                      cases e
                      have HI2 := hide (hi2.ints HPA.out.lT)
                      have hn2 : n2 ≤ 1000 := by have := (HOK.out.at_ q).2; rw [HI2.out.len] at this; exact this
                      have HL2 := hide (HOK.out.at_ q).1
                      have hc2' : wr.cell? (ad.add q) = some (.slice A2 n2 c2) := (HP.out.bel.cell (lt_of_cell hc2)).trans hc2
                      have HNX := Lib.hid (pairF_next (v := (v : Int)) (a := a) (now := now5) (show q < all.length by rw [HNA.out]; exact hql))
                      clear hi2 hc2
                      generalize all.getD q [] = b at HI2 HL2 HNX
                      have HRS := hide (refResolve_any (v : Int) A1 A2 n1 c1 n2 c2 a b wr ((HI1.out.below HP.out.bel).more HP.out.bel.size) ((HI2.out.below HP.out.bel).more HP.out.bel.size) HL1.out HL2.out hn1 hn2)
                      have HRL := hide (resF_row HL1.out HL2.out (v : Int)).1
                      have HCD := hide (fun q c (e : resF a b (v : Int) = (q, c)) => resF_code (q := q) (c := c) e)
                      have HYE := hide (fun q (e : resF a b (v : Int) = (q, 0)) => pairOne_yes (now := now5) (q := q) e)
                      have HNO := hide (fun q c (e : resF a b (v : Int) = (q, c)) => pairOne_no (now := now5) (q := q) (c := c) e)
                      generalize resF a b (v : Int) = r at HRS HRL HCD HYE HNO
                      obtain ⟨zq, cd⟩ := r
                      have hcd := HCD.out zq cd rfl
                      by_cases h0 : cd = 0
                      · subst h0
                        have HK := Lib.hid (HYE.out zq rfl)
                        have HRN := hide (onceF_row (l := now5) HON.out HRL.out)
                        have HLN := Lib.hid (onceF_len now5 zq).2
                        have HOC := hide (fun (w3 : World) (Aq : Option Addr) (nq cq : Nat) (hb : Below wr.heap.size wr w3) (hi : Ints w3 w3.heap.size Aq nq zq) => once_any wo T u12 now5 Aq nq cq zq w3 (HP.out.below hb) (HGW.out.below (HP.out.bel.trans (hb.mono HP.out.bel.size))) HON.out hi HRL.out (by have := HLE.out; omega))
                        generalize onceF now5 zq = now6 at HOC HK HRN HLN
                        go_wp2_with fail
                        refine (HRS.out).mono ?_
                        rintro e w3 ⟨vw, rfl, how, hb3⟩
                        obtain ⟨Aw, cw, rfl, _⟩ := how.form
                        have HOQ := hide (HOC.out w3 Aw zq.length cw hb3 how.ints)
                        clear how hb3 HOC
                        generalize zq.length = nq at HOQ ⊢
                        go_wp2_with fail
                        refine (HOQ.out).mono ?_
                        rintro e w4 ⟨T4, v4, rfl, hp4, ht4⟩
                        have HP4 := hide (show ProN wo v4 now6 w4 from ⟨T4, hp4, ht4 HT.out⟩)
                        clear hp4 ht4
                        go_wp2
                        go_roundw
                        case rel => exact ⟨q + 1, by omega, by go_num, hide ⟨now6, HP4.out, HRN.out, by have := HLN.out; have := HLE.out; omega, by rw [← HG5.out, HNX.out, HK.out]⟩⟩
                        case measure => simp [intOf]; omega
                      · have HK := Lib.hid (HNO.out zq cd rfl h0)
                        have hcn : (cd == 0) = false := by simp [h0]
                        go_wp2_with fail
                        refine (HRS.out).mono ?_
                        rintro e w3 ⟨vw, rfl, how, hb3⟩
                        have HP3 := hide (show ProN wo u12 now5 w3 from ⟨T, HP.out.below hb3, HT.out⟩)
                        clear how hb3
                        go_wp2
                        go_roundw
                        case rel => exact ⟨q + 1, by omega, by go_num, hide ⟨now5, HP3.out, HON.out, by have := HLE.out; omega, by rw [← HG5.out, HNX.out, HK.out]⟩⟩
                        case measure => simp [intOf]; omega
                    · obtain rfl : q = j := by omega
                      have HPE := Lib.hid (show pairF (v : Int) a all now = now5 by rw [← HG5.out]; exact pairF_end (Nat.le_of_eq HNA.out))
                      go_wp2
                      go_roundw
                      case rel => exact ⟨p + 1, by omega, by go_num, hide ⟨now5, ⟨T, HP.out, HT.out⟩, HON.out, by have := HLE.out; omega, by rw [← HGN.out, HCX.out, HPE.out]⟩⟩
                      case measure => simp [intOf]; omega
                · obtain rfl : p = j := by omega
                  have HSF := Lib.hid (show stepF (v : Int) all = now by rw [← HGN.out]; exact crossF_end (Nat.le_of_eq HNA.out))
                  obtain ⟨T, hP, hT⟩ := HPN.out.mem
                  have HP := hide hP
                  have HT := hide hT
                  clear hP hT HPN
                  have HLW := hide HOS.out.lt
                  have HOW := hide (HOS.out.below HP.out.bel)
                  have HBW := hide (HPA.out.bel.trans (HP.out.bel.mono HPA.out.bel.size))
                  have hsz0 := HPA.out.bel.size
                  obtain ⟨f, hf⟩ : ∃ f, m - v = f + 1 := ⟨m - v - 1, by omega⟩
                  have hf2 : m - (v + 1) = f := by omega
                  have hgo2 := HGO.out
                  rw [hf] at hgo2
                  obtain ⟨An, cn, rfl, _⟩ := HP.out.own.form
                  have HN4 := Lib.hid (show now.length ≤ 5000000 by have := HLE.out; omega)
                  obtain ⟨nn, HNN⟩ : ∃ nn, Hid (now.length = nn) := ⟨_, Lib.hid rfl⟩
                  have hnn : nn ≤ 5000000 := by have := HNN.out; have := HN4.out; omega
                  by_cases hbig : 2000 < nn
                  · rw [elimGo_big (by rw [HSF.out, HNN.out]; exact hbig)] at hgo2
                    have HRE := Lib.hid (HRR.out.trans hgo2.symm)
                    rw [HNN.out]
                    clear hgo2
                    go_wp2
                    go_ret3
                    rw [HRE.out]
                    exact ⟨_, rfl, Own.nil _ _, HBW.out⟩
                  · rw [elimGo_next (by rw [HSF.out, HNN.out]; exact hbig), HSF.out, HNN.out] at hgo2
                    have HGO2 := Lib.hid hgo2
                    clear hgo2
                    rw [HNN.out] at HP ⊢
                    have HPB := hide ((Below.refl wr.heap.size wr).alloc (Nat.le_refl _) (.cells #[.int .i64 (nn : Int)] 3))
                    have HOA := hide (HOW.out.alloc (.cells #[.int .i64 (nn : Int)] 3))
                    have HPX := hide (HP.out.below HPB.out)
                    have HCA := Lib.hid (show (wr.alloc (.cells #[.int .i64 (nn : Int)] 3)).cell? ⟨wr.heap.size, 0, none⟩ = some (.int .i64 (nn : Int)) by simp)
                    have HXI := Lib.hid (show I64 (nn : Int) by unfold I64; omega)
                    have HBB := hide (HBW.out.trans (HPB.out.mono HBW.out.size))
                    go_wp2_with (at_builtin; refine app1 _ rfl _ _ 28 rfl w.heap.size Tryz.underlying28 _ sz rfl HOA.out wr.heap.size 1 (nn : Int) rfl HCA.out HXI.out (by have := HSL.out; omega) HBB.out.size ?_; intro v1 w1 ho1 hg1 hor; have HO1 := hide ho1; have HG1 := hide hg1; clear ho1 hg1 hor)
                    have HPZ := hide (sizes_kept HPX.out HT.out HPA.out.bel HLW.out HG1.out)
                    clear HG1 HPX
                    go_roundw
                    case rel => exact ⟨v + 1, by omega, by go_num, hide ⟨T, now, sz ++ [(nn : Int)], HPZ.out, HO1.out, HON.out, by have := HNN.out; omega, by rw [List.length_append, List.length_singleton, HSL.out], by rw [hf2]; exact HGO2.out⟩⟩
                    case measure => simp [intOf]; omega
        · obtain rfl : v = m := by omega
          have HRE := Lib.hid (show elimF v ls = ((sz, all.isEmpty), 0) by rw [HRR.out, ← HGO.out, Nat.sub_self, elimGo])
          have HB := hide HPA.out.bel
          rcases Nat.eq_zero_or_pos na with h0 | h0
          · subst h0
            have HE2 := Lib.hid (show all.isEmpty = true by rw [List.eq_nil_of_length_eq_zero HNA.out]; rfl)
            go_wp2
            go_ret3
            rw [HRE.out, HE2.out]
            exact ⟨_, rfl, HOS.out, HB.out⟩
          · have HE2 := Lib.hid (show all.isEmpty = false by
              cases all with
              | nil => have := HNA.out; simp at this; omega
              | cons _ _ => rfl)
            have hnb : ((na : Int) == 0) = false := by simp; omega
            go_wp2
            go_ret3
            rw [HRE.out, HE2.out]
            exact ⟨_, rfl, HOS.out, HB.out⟩
end Go.Proofs.YtkkgdlfjblmbjaaGreatDoor
