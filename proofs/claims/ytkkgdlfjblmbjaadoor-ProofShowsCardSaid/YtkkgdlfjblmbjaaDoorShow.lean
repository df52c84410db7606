/-
  proof.follows: tells 'showB'.
-/
import Derived.Test.YtkkgdlfjblmbjaaDoorMapI
import Derived.Test.YtkkgdlfjblmbjaaDoorCheck
namespace Go.Proofs.YtkkgdlfjblmbjaaDoor
open Go.RowKit

theorem follows1_any (x vars : Int) (a : Addr) (w : World) (hc : w.cell? a = some (.int .i64 vars)) (h0 : 0 ≤ vars) (h1 : vars ≤ 24) :
    Calls Tryd.prog 71 #[.int .i64 x, .pointer (some a)] w fun e w' => e = .returned (.bool (badB vars x)) ∧ w = w' := by
  by_cases h2 : x = 0
  · subst h2
    go_enter Tryd.func71, Tryd.ntmps71
    go_wp2
    go_ret
    exact ⟨ret_bool (badB_t (by omega)).symm, rfl⟩
  · by_cases h3 : vars < x
    · go_enter Tryd.func71, Tryd.ntmps71
      go_wp2
      go_ret
      exact ⟨ret_bool (badB_t (by omega)).symm, rfl⟩
    · by_cases h4 : x < -vars
      · go_enter Tryd.func71, Tryd.ntmps71
        go_wp2
        go_ret
        exact ⟨ret_bool (badB_t (by omega)).symm, rfl⟩
      · go_enter Tryd.func71, Tryd.ntmps71
        go_wp2
        go_ret
        exact ⟨ret_bool (by rw [badB_f (by omega)]; simp [h2]), rfl⟩
theorem enters_follows1 : ∀ args w, (callFunc 71 args).run Tryd.prog w = .ok (.enter 71 args) w := enters_of Tryd.func71 (by kernel_rfl) rfl

/-- What the look at a clause has found by place j. -/
structure ScI (tr zs : List Int) (j : Nat) (left : Int) (holds several : Bool) : Prop where
  yes : holds = true ∨ several = true → unitF tr zs = (0, true)
  no : holds = false → several = false → unitGo tr left (zs.drop j) = unitF tr zs
theorem ScI.start (tr zs : List Int) : ScI tr zs 0 0 false false := ⟨fun h => (by rcases h with h | h <;> cases h), fun _ _ => rfl⟩
theorem ScI.mem {tr zs : List Int} {j : Nat} {left x : Int} {holds several : Bool} (h : ScI tr zs j left holds several) (hd : zs.drop j = x :: zs.drop (j + 1)) (hx : x ∈ tr) : ScI tr zs (j + 1) left true several := by
  refine ⟨fun _ => ?_, fun h => by cases h⟩
  by_cases h1 : holds = true ∨ several = true
  · exact h.yes h1
  · have := h.no (by cases holds <;> simp_all) (by cases several <;> simp_all)
    rw [hd, unitGo, if_pos hx] at this
    exact this.symm
theorem ScI.neg {tr zs : List Int} {j : Nat} {left x : Int} {holds several : Bool} (h : ScI tr zs j left holds several) (hd : zs.drop j = x :: zs.drop (j + 1)) (hx : x ∉ tr) (hx2 : -x ∈ tr) : ScI tr zs (j + 1) left holds several := by
  refine ⟨h.yes, fun h1 h2 => ?_⟩
  have := h.no h1 h2
  rw [hd, unitGo, if_neg hx, if_pos hx2] at this
  exact this
theorem ScI.unk {tr zs : List Int} {j : Nat} {left x : Int} {holds several s' : Bool} (h : ScI tr zs j left holds several) (hd : zs.drop j = x :: zs.drop (j + 1)) (hx : x ∉ tr) (hx2 : -x ∉ tr)
    (hs : s' = (several || decide (left ≠ 0 ∧ left ≠ x))) : ScI tr zs (j + 1) x holds s' := by
  by_cases h1 : holds = true ∨ several = true
  · exact ⟨fun _ => h.yes h1, fun h2 h3 => by subst hs; rcases h1 with h1 | h1 <;> simp_all⟩
  · have h0 := h.no (by cases holds <;> simp_all) (by cases several <;> simp_all)
    rw [hd, unitGo, if_neg hx, if_neg hx2] at h0
    have hsv : several = false := by cases several <;> simp_all
    have hho : holds = false := by cases holds <;> simp_all
    rw [hsv, Bool.false_or] at hs
    by_cases h3 : left ≠ 0 ∧ left ≠ x
    · rw [if_pos h3] at h0
      rw [decide_eq_true h3] at hs
      exact ⟨fun _ => h0.symm, fun _ k => by rw [hs] at k; cases k⟩
    · rw [if_neg h3] at h0
      rw [decide_eq_false h3] at hs
      exact ⟨fun k => (by rw [hs, hho] at k; rcases k with k | k <;> cases k), fun _ _ => h0⟩
theorem ScI.done {tr zs : List Int} {j : Nat} {left : Int} (h : ScI tr zs j left false false) (hj : zs.length ≤ j) : unitF tr zs = (left, decide (left ≠ 0)) := by
  have := h.no rfl rfl
  rw [List.drop_eq_nil_of_le hj, unitGo] at this
  exact this.symm

theorem bools_ff {a b : Bool} (h : ¬ (a = true ∨ b = true)) : a = false ∧ b = false := by
  cases a <;> cases b <;> simp at h ⊢

/-- After k literals of the clause: what is told is what they deny. -/
structure ShowA (zs : List Int) (w : World) (k : Nat) (tr : List Int) (wr : World) : Prop where
  bel : Below w.heap.size w wr
  map : MapT wr (w.heap.size + 1) tr
  cons : Cons tr
  mem : ∀ x, x ∈ tr ↔ -x ∈ zs.take k
/-- In a pass over the clauses, ahead of number k: n0 were told at its start. -/
structure ShowB (ls : List (List Int)) (tr0 : List Int) (w : World) (tr : List Int) (wr : World) : Prop where
  bel : Below w.heap.size w wr
  map : MapT wr (w.heap.size + 1) tr
  cons : Cons tr
  sp : stuck ls tr0 ↔ stuck ls tr

def ShowPost (b : Bool) (w : World) (e : Ending) (w' : World) : Prop := e = .returned (.bool b) ∧ Below w.heap.size w w'

set_option maxRecDepth 100000 in
set_option maxHeartbeats 4000000 in
theorem proofFollows_any (vars : Int) (A A2 : Option Addr) (n c n2 c2 : Nat) (ls : List (List Int)) (zs : List Int) (w : World) (hcl : Cls w w.heap.size A n ls) (hok : okRows ls) (hi : Ints w w.heap.size A2 n2 zs) (hv0 : 0 ≤ vars) (hv1 : vars ≤ 24) :
    Calls Tryd.prog 51 #[.int .i64 vars, .slice A n c, .slice A2 n2 c2] w (ShowPost (showB vars ls zs) w) := by
  have hn := hcl.le
  have hn2 := hi.le
  have hlen := Lib.hid hcl.1
  have hilen := Lib.hid hi.1
  have HOK := hide hok
  have HCL := hide hcl
  have HI := hide hi
  have hbel := hide ((Below.refl w.heap.size w).alloc (Nat.le_refl _) (.cells #[.int .i64 vars] 3))
  have hcell : (w.alloc (.cells #[.int .i64 vars] 3)).cell? ⟨w.heap.size, 0, none⟩ = some (.int .i64 vars) := by simp
  have HC := hide (containsFunc_any 71 #[.pointer (some ⟨w.heap.size, 0, none⟩)] enters_follows1 (badB vars) A2 n2 c2 zs (w.alloc (.cells #[.int .i64 vars] 3)) ((hi.below hbel.out).more (by simp)) (fun x _ => follows1_any x vars _ _ hcell hv0 hv1))
  clear hcell hok hcl
  have hmm := @run_makeMap Tryd.prog
  rcases hany : zs.any (badB vars) with _ | _
  rotate_left
  · rw [hany] at HC
    have HF := Lib.hid (showB_bad (ls := ls) hany)
    clear hany
    go_enter Tryd.func51, Tryd.ntmps51
    go_wp2_with (go_at_call 38; refine (HC.out).mono ?_; rintro e w' ⟨rfl, rfl⟩)
    go_ret
    rw [HF.out]
    exact ⟨rfl, hbel.out⟩
  rw [hany] at HC
  have HANY := Lib.hid hany
  clear hany
  have HOKZ := hide (show ∀ x ∈ zs, litOk x from fun x hx => by
    have := List.any_eq_false.1 HANY.out x hx
    unfold badB at this
    simp at this
    unfold litOk
    omega)
  go_enter Tryd.func51, Tryd.ntmps51
  go_wp2_with (go_at_call 38; refine (HC.out).mono ?_; rintro e w' ⟨rfl, rfl⟩)
  go_loopw [9, 10, 11, 28] (fun _ _ _ i wr => ∃ (k : Nat) (tr : List Int), k ≤ n2 ∧ i = .int .i64 k ∧ Hid (ShowA zs w k tr wr)) (fun _ _ _ i _ => n2 - (intOf i).toNat)
  case atStart => exact ⟨0, [], Nat.zero_le _, rfl, hide ⟨hbel.out.alloc (by simp) _, by have := mapT_made (w.alloc (.cells #[.int .i64 vars] 3)); simpa using this, Cons.nil, by simp⟩⟩
  case round =>
    obtain ⟨k, tr, hk, rfl, hS⟩ := hrel
    by_cases hlt : k < n2
    · obtain ⟨ad, rfl, hb, hc⟩ := HI.out.at_ hlt
      have hc2 : wr.cell? (ad.add k) = some (.int .i64 (zs.getD k 0)) := (hS.out.bel.cell (by rw [block_of_add]; exact hb)).trans hc
      have hkl := Lib.hid (show k < zs.length by rw [hilen.out]; exact hlt)
      have HMEM := hide (show zs.getD k 0 ∈ zs by
        rw [List.getD_eq_getElem?_getD, List.getElem?_eq_getElem hkl.out]; exact List.getElem_mem hkl.out)
      have hxo := HOKZ.out _ HMEM.out
      have HT := hide (take_snoc zs k 0 hkl.out)
      clear hc
      generalize zs.getD k 0 = x at hc2 hxo HT HMEM
      have HXO := hide hxo
      have HMP := hide hS.out.map
      have HBOTH := hide (show x ∈ tr → showB vars ls zs = true from fun h => showB_both HANY.out (bothB_t HMEM.out (List.mem_of_mem_take ((hS.out.mem x).1 h))))
      have HNB := hide (show x ∈ tr → -x ∉ tr from fun h => hS.out.cons.no_both h)
      have hbx : -24 ≤ x ∧ x ≤ 24 := by rcases hxo with h | h <;> omega
      have HNEXT := hide (show ∀ w1 tr', x ∉ tr → MapT w1 (w.heap.size + 1) tr' → wr.grownBy w1 (some (w.heap.size + 1)) → (tr' = tr ∧ -x ∈ tr ∨ tr' = tr ++ [-x] ∧ -x ∉ tr) → ShowA zs w (k + 1) tr' w1 by
        intro w1 tr' hx hm hg ht
        refine ⟨hS.out.bel.grown hg (hS.out.bel.size) (fun j hj => by cases hj; omega), hm, ?_, ?_⟩
        · rcases ht with ⟨rfl, _⟩ | ⟨rfl, h⟩
          · exact hS.out.cons
          · exact hS.out.cons.snoc (by rcases HXO.out with h | h <;> omega) h (by rw [Int.neg_neg]; exact hx)
        · intro y
          rw [HT.out, List.mem_append, List.mem_singleton, ← hS.out.mem y]
          rcases ht with ⟨rfl, h⟩ | ⟨rfl, h⟩
          · refine ⟨.inl, fun k => k.elim id fun e => ?_⟩
            rw [← e, Int.neg_neg] at h
            exact h
          · rw [List.mem_append, List.mem_singleton]
            constructor <;> rintro (h | h) <;> first | exact .inl h | (right; omega))
      by_cases hneg : x < 0
      · have hv1 : 1 ≤ (-x) := by rcases hxo with h | h <;> omega
        have hv2 : (-x) ≤ 24 := by omega
        have HLO := hide (show litOk (-x) by rcases hxo with h | h <;> unfold litOk <;> omega)
        have HE1 := hide (show ((-x) : Int) = if -x < 0 then -(-x) else -x by split <;> omega)
        have HE2 := hide (show (1 : Int) = if -x < 0 then -1 else 1 by split <;> omega)
        clear hxo
        by_cases h1 : x ∈ tr
        · have HL := hide (litT_neg_mem hS.out.cons h1)
          have HF := hide (HBOTH.out h1)
          clear h1
          go_wp2_with (first | (at_lookup; refine lookZ rfl _ _ 122 rfl Tryd.underlying122 rfl HMP.out (-x) (-1) rfl hv1 hv2 HL.out ?_) | fail)
          go_ret
          rw [HF.out]
          exact ⟨rfl, hS.out.bel⟩
        · by_cases h2 : -x ∈ tr
          · have HL := hide (litT_mem h2)
            have H1 := hide h1
            have H2 := hide h2
            clear h1 h2
            go_wp2_with (first | (at_lookup; refine lookZ rfl _ _ 122 rfl Tryd.underlying122 rfl HMP.out (-x) 1 rfl hv1 hv2 HL.out ?_) | (at_mapUpdate; refine storeT2 rfl _ _ _ 122 rfl Tryd.underlying122 rfl HMP.out (-x) (-x) 1 rfl rfl HLO.out HE1.out HE2.out H2.out (by rw [Int.neg_neg]; exact H1.out) ?_; intro w1 hm1 hg1; have HM1 := hide hm1; have HG1 := hide hg1; clear hm1 hg1) | fail)
            go_roundw
            case rel => exact ⟨k + 1, tr, by omega, by go_num, hide (HNEXT.out w1 _ H1.out HM1.out HG1.out (.inl ⟨rfl, H2.out⟩))⟩
            case measure => simp [intOf]; omega
          · have HL := hide (litT_pos_none h1 h2)
            have H1 := hide h1
            have H2 := hide h2
            clear h1 h2
            go_wp2_with (first | (at_lookup; refine lookZ rfl _ _ 122 rfl Tryd.underlying122 rfl HMP.out (-x) 0 rfl hv1 hv2 HL.out ?_) | (at_mapUpdate; refine storeT rfl _ _ _ 122 rfl Tryd.underlying122 rfl HMP.out (-x) (-x) 1 rfl rfl HLO.out HE1.out HE2.out H2.out (by rw [Int.neg_neg]; exact H1.out) ?_; intro w1 hm1 hg1; have HM1 := hide hm1; have HG1 := hide hg1; clear hm1 hg1) | fail)
            go_roundw
            case rel => exact ⟨k + 1, tr ++ [-x], by omega, by go_num, hide (HNEXT.out w1 _ H1.out HM1.out HG1.out (.inr ⟨rfl, H2.out⟩))⟩
            case measure => simp [intOf]; omega
      · have hv1 : 1 ≤ x := by rcases hxo with h | h <;> omega
        have hv2 : x ≤ 24 := by omega
        have HLO := hide (show litOk (-x) by rcases hxo with h | h <;> unfold litOk <;> omega)
        have HE1 := hide (show (x : Int) = if -x < 0 then -(-x) else -x by split <;> omega)
        have HE2 := hide (show ((-1) : Int) = if -x < 0 then -1 else 1 by split <;> omega)
        clear hxo
        by_cases h1 : x ∈ tr
        · have HL := hide (litT_mem h1)
          have HF := hide (HBOTH.out h1)
          clear h1
          go_wp2_with (first | (at_lookup; refine lookZ rfl _ _ 122 rfl Tryd.underlying122 rfl HMP.out x 1 rfl hv1 hv2 HL.out ?_) | fail)
          go_ret
          rw [HF.out]
          exact ⟨rfl, hS.out.bel⟩
        · by_cases h2 : -x ∈ tr
          · have HL := hide (litT_neg h1 h2)
            have H1 := hide h1
            have H2 := hide h2
            clear h1 h2
            go_wp2_with (first | (at_lookup; refine lookZ rfl _ _ 122 rfl Tryd.underlying122 rfl HMP.out x (-1) rfl hv1 hv2 HL.out ?_) | (at_mapUpdate; refine storeT2 rfl _ _ _ 122 rfl Tryd.underlying122 rfl HMP.out (-x) x (-1) rfl rfl HLO.out HE1.out HE2.out H2.out (by rw [Int.neg_neg]; exact H1.out) ?_; intro w1 hm1 hg1; have HM1 := hide hm1; have HG1 := hide hg1; clear hm1 hg1) | fail)
            go_roundw
            case rel => exact ⟨k + 1, tr, by omega, by go_num, hide (HNEXT.out w1 _ H1.out HM1.out HG1.out (.inl ⟨rfl, H2.out⟩))⟩
            case measure => simp [intOf]; omega
          · have HL := hide (litT_none h1 h2)
            have H1 := hide h1
            have H2 := hide h2
            clear h1 h2
            go_wp2_with (first | (at_lookup; refine lookZ rfl _ _ 122 rfl Tryd.underlying122 rfl HMP.out x 0 rfl hv1 hv2 HL.out ?_) | (at_mapUpdate; refine storeT rfl _ _ _ 122 rfl Tryd.underlying122 rfl HMP.out (-x) x (-1) rfl rfl HLO.out HE1.out HE2.out H2.out (by rw [Int.neg_neg]; exact H1.out) ?_; intro w1 hm1 hg1; have HM1 := hide hm1; have HG1 := hide hg1; clear hm1 hg1) | fail)
            go_roundw
            case rel => exact ⟨k + 1, tr ++ [-x], by omega, by go_num, hide (HNEXT.out w1 _ H1.out HM1.out HG1.out (.inr ⟨rfl, H2.out⟩))⟩
            case measure => simp [intOf]; omega
    · obtain rfl : k = n2 := by omega
      have HTK := Lib.hid (show zs.take k = zs from List.take_of_length_le (by have := hilen.out; omega))
      have HB0 := hide (show ShowB ls tr w tr wr from ⟨hS.out.bel, hS.out.map, hS.out.cons, Iff.rfl⟩)
      have HSAME := hide (show stuck ls (zs.map fun x => -x) ↔ stuck ls tr from stuck_same fun x => by
        rw [hS.out.mem x, HTK.out, List.mem_map]
        exact ⟨fun ⟨y, hy, e⟩ => by rw [← e, Int.neg_neg]; exact hy, fun h => ⟨-x, h, Int.neg_neg x⟩⟩)
      have HYES := hide (show stuck ls tr → showB vars ls zs = false from fun h => showB_f (bothB_f fun x hx h2 => hS.out.cons.no_both (x := x) ((hS.out.mem x).2 (by rw [HTK.out]; exact h2)) ((hS.out.mem (-x)).2 (by rw [HTK.out, Int.neg_neg]; exact hx))) (HSAME.out.2 h))
      have HNO := hide (show ¬ stuck ls tr → showB vars ls zs = true from fun h => showB_t HANY.out fun k => h (HSAME.out.1 k))
      have HTR := hS.out.cons.len
      clear hS HTK HSAME
      generalize tr = tr0 at HB0 HYES HNO HTR
      go_wp2
      go_loopg [12] (2 * (25 - tr0.length) + 1) (fun gg s wr => ∃ (ag : Bool) (tr : List Int), s = .bool ag ∧ Hid (ShowB ls tr0 w tr wr) ∧ Hid (ag = false → ∀ c ∈ ls, unitF tr c = (0, true)) ∧ 2 * (25 - tr.length) + (if ag = true then 1 else 0) ≤ gg)
      case atStart => exact ⟨true, tr0, rfl, HB0, hide (fun h => by cases h), by simp⟩
      case round =>
        clear HB0
        obtain ⟨ag, tr, rfl, hB, hA, hg⟩ := hrel
        rcases ag with _ | _
        · have HF := hide (HYES.out (hB.out.sp.2 (stuck_end hB.out.cons (hA.out rfl))))
          go_wp2
          go_ret
          rw [HF.out]
          exact ⟨rfl, hB.out.bel⟩
        · clear hA
          have HBT := hB
          obtain ⟨wo, rfl⟩ : ∃ wo : World, wo = wr := ⟨_, rfl⟩
          go_wp2
          go_loopw [12, 51] (fun s i wi => ∃ (q : Nat) (ag : Bool) (tr' : List Int), q ≤ n ∧ i = .int .i64 q ∧ s = .bool ag ∧ Hid (ShowB ls tr0 w tr' wi) ∧ Hid ((ag = false → tr' = tr ∧ ∀ j, j < q → unitF tr (ls.getD j []) = (0, true)) ∧ (ag = true → tr.length < tr'.length))) (fun _ i _ => n - (intOf i).toNat)
          case atStart => exact ⟨0, false, tr, Nat.zero_le _, rfl, rfl, hB, hide ⟨fun _ => ⟨rfl, fun j h => absurd h (Nat.not_lt_zero _)⟩, fun h => by cases h⟩⟩
          case round =>
            clear hB
            obtain ⟨q, ag, tr', hq, rfl, rfl, hB, hA⟩ := hrel
            by_cases hlt : q < n
            · obtain ⟨ad, A', n', c', rfl, hb, hc, hcc, hi'⟩ := HCL.out.at_ hlt
              have hc2 : wr.cell? (ad.add q) = some (.slice A' n' c') := (hB.out.bel.cell (by rw [block_of_add]; exact hb)).trans hc
              have hkl := Lib.hid (show q < ls.length by rw [hlen.out]; exact hlt)
              have HOKK := hide (HOK.out q hkl.out)
              have HI2 := hide (hi'.below hB.out.bel)
              have hn' := hi'.le
              have HIL := Lib.hid hi'.len
              have HMB := hide (show ls.getD q [] ∈ ls by rw [List.getD_eq_getElem?_getD, List.getElem?_eq_getElem hkl.out]; exact List.getElem_mem hkl.out)
              have HMP := hide hB.out.map
              have HSKIP := hide (show unitF tr' (ls.getD q []) = (0, true) → ag = false → tr' = tr ∧ ∀ j, j < q + 1 → unitF tr (ls.getD j []) = (0, true) from fun h h2 => by
                obtain ⟨rfl, h3⟩ := hA.out.1 h2
                refine ⟨rfl, fun j hj => ?_⟩
                by_cases e : j < q
                · exact h3 j e
                · obtain rfl : j = q := by omega
                  exact h)
              have H3 := hide (unit_three tr' (ls.getD q []) (HOK.out q hkl.out))
              generalize ls.getD q [] = ds at HOKK HI2 HIL HMB HSKIP H3
              clear hi' hc
              go_wp2
              go_loop [15, 16, 17, 57] (fun l h s i => ∃ (j : Nat) (left : Int) (hb sb : Bool), j ≤ n' ∧ i = .int .i64 j ∧ l = .int .i64 left ∧ h = .bool hb ∧ s = .bool sb ∧ Hid (ScI tr' ds j left hb sb)) (fun _ _ _ i => n' - (intOf i).toNat)
              case atStart => exact ⟨0, 0, false, false, Nat.zero_le _, rfl, rfl, rfl, rfl, hide (ScI.start _ _)⟩
              case round =>
                obtain ⟨j, left, hb, sb, hj, rfl, rfl, rfl, rfl, hI⟩ := hrel
                by_cases hlt2 : j < n'
                · obtain ⟨ad2, rfl, hb2, hcx⟩ := HI2.out.at_ hlt2
                  have hjl := Lib.hid (show j < ds.length by rw [HIL.out]; exact hlt2)
                  have hmem : ds.getD j 0 ∈ ds := by
                    rw [List.getD_eq_getElem?_getD, List.getElem?_eq_getElem hjl.out]; exact List.getElem_mem hjl.out
                  have hxo := HOKK.out _ hmem
                  have HD := Lib.hid (getD_cons_drop ds j 0 hjl.out)
                  clear hmem
                  generalize ds.getD j 0 = x at hcx hxo HD
                  have hbx : -24 ≤ x ∧ x ≤ 24 := by rcases hxo with h | h <;> omega
                  by_cases hneg : x < 0
                  · have hv1 : 1 ≤ (-x) := by rcases hxo with h | h <;> omega
                    have hv2 : (-x) ≤ 24 := by omega
                    clear hxo
                    by_cases h1 : x ∈ tr'
                    · have HL := hide (litT_neg_mem hB.out.cons h1)
                      have HN := hide (hI.out.mem HD.out h1)
                      clear h1
                      go_wp2_with (first | (at_lookup; refine lookZ rfl _ _ 122 rfl Tryd.underlying122 rfl HMP.out (-x) (-1) rfl hv1 hv2 HL.out ?_) | fail)
                      go_round
                      case rel => exact ⟨j + 1, left, true, sb, by omega, by go_num, rfl, rfl, rfl, HN⟩
                      case measure => simp [intOf]; omega
                    · by_cases h2 : -x ∈ tr'
                      · have HL := hide (litT_mem h2)
                        have HN := hide (hI.out.neg HD.out h1 h2)
                        clear h1 h2
                        go_wp2_with (first | (at_lookup; refine lookZ rfl _ _ 122 rfl Tryd.underlying122 rfl HMP.out (-x) 1 rfl hv1 hv2 HL.out ?_) | fail)
                        go_round
                        case rel => exact ⟨j + 1, left, hb, sb, by omega, by go_num, rfl, rfl, rfl, HN⟩
                        case measure => simp [intOf]; omega
                      · have HL := hide (litT_pos_none h1 h2)
                        have HN := hide (fun s' h => hI.out.unk (s' := s') HD.out h1 h2 h)
                        clear h1 h2
                        rcases sb with _ | _
                        · by_cases h3 : left = 0
                          · have hb3 : (left != 0) = false := by simp [h3]
                            go_wp2_with (first | (at_lookup; refine lookZ rfl _ _ 122 rfl Tryd.underlying122 rfl HMP.out (-x) 0 rfl hv1 hv2 HL.out ?_) | fail)
                            go_round
                            case rel => exact ⟨j + 1, x, hb, false, by omega, by go_num, rfl, rfl, rfl, hide (HN.out false (by simp [*]))⟩
                            case measure => simp [intOf]; omega
                          · have hb3 : (left != 0) = true := by simp [h3]
                            by_cases h4 : left = x
                            · have hb4 : (left != x) = false := by simp [h4]
                              go_wp2_with (first | (at_lookup; refine lookZ rfl _ _ 122 rfl Tryd.underlying122 rfl HMP.out (-x) 0 rfl hv1 hv2 HL.out ?_) | fail)
                              go_round
                              case rel => exact ⟨j + 1, x, hb, false, by omega, by go_num, rfl, rfl, rfl, hide (HN.out false (by simp [*]))⟩
                              case measure => simp [intOf]; omega
                            · have hb4 : (left != x) = true := by simp [h4]
                              go_wp2_with (first | (at_lookup; refine lookZ rfl _ _ 122 rfl Tryd.underlying122 rfl HMP.out (-x) 0 rfl hv1 hv2 HL.out ?_) | fail)
                              go_round
                              case rel => exact ⟨j + 1, x, hb, true, by omega, by go_num, rfl, rfl, rfl, hide (HN.out true (by simp [*]))⟩
                              case measure => simp [intOf]; omega
                        · go_wp2_with (first | (at_lookup; refine lookZ rfl _ _ 122 rfl Tryd.underlying122 rfl HMP.out (-x) 0 rfl hv1 hv2 HL.out ?_) | fail)
                          go_round
                          case rel => exact ⟨j + 1, x, hb, true, by omega, by go_num, rfl, rfl, rfl, hide (HN.out true (by simp [*]))⟩
                          case measure => simp [intOf]; omega
                  · have hv1 : 1 ≤ x := by rcases hxo with h | h <;> omega
                    have hv2 : x ≤ 24 := by omega
                    clear hxo
                    by_cases h1 : x ∈ tr'
                    · have HL := hide (litT_mem h1)
                      have HN := hide (hI.out.mem HD.out h1)
                      clear h1
                      go_wp2_with (first | (at_lookup; refine lookZ rfl _ _ 122 rfl Tryd.underlying122 rfl HMP.out x 1 rfl hv1 hv2 HL.out ?_) | fail)
                      go_round
                      case rel => exact ⟨j + 1, left, true, sb, by omega, by go_num, rfl, rfl, rfl, HN⟩
                      case measure => simp [intOf]; omega
                    · by_cases h2 : -x ∈ tr'
                      · have HL := hide (litT_neg h1 h2)
                        have HN := hide (hI.out.neg HD.out h1 h2)
                        clear h1 h2
                        go_wp2_with (first | (at_lookup; refine lookZ rfl _ _ 122 rfl Tryd.underlying122 rfl HMP.out x (-1) rfl hv1 hv2 HL.out ?_) | fail)
                        go_round
                        case rel => exact ⟨j + 1, left, hb, sb, by omega, by go_num, rfl, rfl, rfl, HN⟩
                        case measure => simp [intOf]; omega
                      · have HL := hide (litT_none h1 h2)
                        have HN := hide (fun s' h => hI.out.unk (s' := s') HD.out h1 h2 h)
                        clear h1 h2
                        rcases sb with _ | _
                        · by_cases h3 : left = 0
                          · have hb3 : (left != 0) = false := by simp [h3]
                            go_wp2_with (first | (at_lookup; refine lookZ rfl _ _ 122 rfl Tryd.underlying122 rfl HMP.out x 0 rfl hv1 hv2 HL.out ?_) | fail)
                            go_round
                            case rel => exact ⟨j + 1, x, hb, false, by omega, by go_num, rfl, rfl, rfl, hide (HN.out false (by simp [*]))⟩
                            case measure => simp [intOf]; omega
                          · have hb3 : (left != 0) = true := by simp [h3]
                            by_cases h4 : left = x
                            · have hb4 : (left != x) = false := by simp [h4]
                              go_wp2_with (first | (at_lookup; refine lookZ rfl _ _ 122 rfl Tryd.underlying122 rfl HMP.out x 0 rfl hv1 hv2 HL.out ?_) | fail)
                              go_round
                              case rel => exact ⟨j + 1, x, hb, false, by omega, by go_num, rfl, rfl, rfl, hide (HN.out false (by simp [*]))⟩
                              case measure => simp [intOf]; omega
                            · have hb4 : (left != x) = true := by simp [h4]
                              go_wp2_with (first | (at_lookup; refine lookZ rfl _ _ 122 rfl Tryd.underlying122 rfl HMP.out x 0 rfl hv1 hv2 HL.out ?_) | fail)
                              go_round
                              case rel => exact ⟨j + 1, x, hb, true, by omega, by go_num, rfl, rfl, rfl, hide (HN.out true (by simp [*]))⟩
                              case measure => simp [intOf]; omega
                        · go_wp2_with (first | (at_lookup; refine lookZ rfl _ _ 122 rfl Tryd.underlying122 rfl HMP.out x 0 rfl hv1 hv2 HL.out ?_) | fail)
                          go_round
                          case rel => exact ⟨j + 1, x, hb, true, by omega, by go_num, rfl, rfl, rfl, hide (HN.out true (by simp [*]))⟩
                          case measure => simp [intOf]; omega
                · have hjl : ds.length ≤ j := by have := HIL.out; omega
                  have hb3 : hb = true ∨ hb = false := by cases hb <;> simp
                  by_cases hsk : hb = true ∨ sb = true
                  · have HU := hide (HSKIP.out (hI.out.yes hsk))
                    clear hI
                    rcases hb with _ | _
                    · obtain rfl : sb = true := by simpa using hsk
                      clear hsk hb3
                      go_wp2
                      go_roundw
                      case rel => exact ⟨q + 1, ag, tr', by omega, by go_num, rfl, hB, hide ⟨HU.out, hA.out.2⟩⟩
                      case measure => simp [intOf]; omega
                    · clear hsk hb3
                      go_wp2
                      go_roundw
                      case rel => exact ⟨q + 1, ag, tr', by omega, by go_num, rfl, hB, hide ⟨HU.out, hA.out.2⟩⟩
                      case measure => simp [intOf]; omega
                  · obtain ⟨rfl, rfl⟩ := bools_ff hsk
                    clear hsk hb3
                    have hd := hI.out.done hjl
                    have HZ := hide (show ∀ y ∈ ds, y ≠ 0 from fun y hy => litOk_ne (HOKK.out y hy))
                    by_cases h0 : left = 0
                    · subst h0
                      have HF := hide (HNO.out fun h => ((stuck_step HMB.out HZ.out hd (by simp)).1 (hB.out.sp.1 h)).1 rfl)
                      clear hd
                      go_wp2
                      go_ret
                      rw [HF.out]
                      exact ⟨rfl, hB.out.bel⟩
                    · have hd2 : unitF tr' ds = (left, true) := by rw [hd]; simp [h0]
                      obtain ⟨hl, h1, h2⟩ : litOk left ∧ left ∉ tr' ∧ -left ∉ tr' := by
                        rcases H3.out with e | e | ⟨x, _, e, r⟩
                        · rw [hd2] at e; simp at e; exact absurd e h0
                        · rw [hd2] at e; simp at e
                        · rw [hd2] at e; simp at e; rw [e]; exact r
                      have HSP := hide (stuck_step HMB.out HZ.out hd2 (by simp [h0]))
                      have HNX := hide (show ∀ w1, MapT w1 (w.heap.size + 1) (tr' ++ [left]) → wr.grownBy w1 (some (w.heap.size + 1)) → ShowB ls tr0 w (tr' ++ [left]) w1 from fun w1 hm hg =>
                        ⟨hB.out.bel.grown hg hB.out.bel.size (fun j hj => by cases hj; omega), hm, hB.out.cons.snoc hl h1 h2, by rw [hB.out.sp, HSP.out]; exact ⟨fun h => h.2, fun h => ⟨h0, h⟩⟩⟩)
                      have HLEN := hide (show tr.length < (tr' ++ [left]).length by
                        rw [List.length_append, List.length_singleton]
                        cases ag
                        · rw [(hA.out.1 rfl).1]; omega
                        · have := hA.out.2 rfl; omega)
                      have hlen24 := hB.out.cons.len
                      have HLO := hide hl
                      have H1 := hide h1
                      have H2 := hide h2
                      have hbl : -24 ≤ left ∧ left ≤ 24 := by rcases hl with h | h <;> omega
                      have hb0 : (left == 0) = false := by simp [h0]
                      clear hd hd2 h1 h2 hI
                      by_cases hneg : left < 0
                      · have HE1 := hide (show ((-left) : Int) = if left < 0 then -left else left by split <;> omega)
                        have HE2 := hide (show ((-1) : Int) = if left < 0 then -1 else 1 by split <;> omega)
                        clear hl
                        go_wp2_with (first | (at_mapUpdate; refine storeT rfl _ _ _ 122 rfl Tryd.underlying122 rfl HMP.out left (-left) (-1) rfl rfl HLO.out HE1.out HE2.out H1.out H2.out ?_; intro w1 hm1 hg1; have HM1 := hide hm1; have HG1 := hide hg1; clear hm1 hg1) | fail)
                        go_roundw
                        case rel => exact ⟨q + 1, true, tr' ++ [left], by omega, by go_num, rfl, hide (HNX.out w1 HM1.out HG1.out), hide ⟨fun h => (by cases h), fun _ => HLEN.out⟩⟩
                        case measure => simp [intOf]; omega
                      · have HE1 := hide (show (left : Int) = if left < 0 then -left else left by split <;> omega)
                        have HE2 := hide (show (1 : Int) = if left < 0 then -1 else 1 by split <;> omega)
                        clear hl
                        go_wp2_with (first | (at_mapUpdate; refine storeT rfl _ _ _ 122 rfl Tryd.underlying122 rfl HMP.out left left 1 rfl rfl HLO.out HE1.out HE2.out H1.out H2.out ?_; intro w1 hm1 hg1; have HM1 := hide hm1; have HG1 := hide hg1; clear hm1 hg1) | fail)
                        go_roundw
                        case rel => exact ⟨q + 1, true, tr' ++ [left], by omega, by go_num, rfl, hide (HNX.out w1 HM1.out HG1.out), hide ⟨fun h => (by cases h), fun _ => HLEN.out⟩⟩
                        case measure => simp [intOf]; omega
            · have hql : q = n := by omega
              subst hql
              have hlen24 := hB.out.cons.len
              rcases ag with _ | _
              · obtain ⟨e, hall⟩ := hA.out.1 rfl
                subst e
                have HALL := hide (show ∀ c ∈ ls, unitF tr' c = (0, true) from fun c hc => by
                  obtain ⟨j, hj, e⟩ := List.getElem_of_mem hc
                  have := hall j (by have := hlen.out; omega)
                  rw [List.getD_eq_getElem?_getD, List.getElem?_eq_getElem hj] at this
                  rw [← e]
                  exact this)
                clear hall hA
                go_wp2
                go_roundg (2 * (25 - tr'.length))
                case measure => simp at hg; omega
                case rel => exact ⟨false, tr', rfl, hB, hide fun _ => HALL.out, by simp⟩
              · have hlt' := hA.out.2 rfl
                clear hA
                go_wp2
                go_roundg (2 * (25 - tr'.length) + 1)
                case measure => simp at hg; omega
                case rel => exact ⟨true, tr', rfl, hB, hide fun h => (by cases h), by simp⟩
end Go.Proofs.YtkkgdlfjblmbjaaDoor
