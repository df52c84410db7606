/-
  The law BddSame, walked.
-/
import Derived.Test.YtfbhmkpihmcegaaMade
import Derived.Test.YtfbhmkpihmcegaaTabSame
import Derived.Test.YtfbhmkpihmcegaaAt
namespace Go.Proofs.Ytfbhmkpihmcegaa
open Go.RowKit Go.Maps

/-- What made hands back, as rows: handles and tables. -/
structure RowsI (w : World) (vn n sz : Nat) (q : Nat → Four) (S B gn gu gt gc L g g' : Nat) (A : Ar) (hs : List Int) (gs : List Nat) (w1 : World) : Prop where
  sp : SpM w1 S B gn gu gt gc (vn : Int) A 0
  ok : HsOk A hs (funsN vn q n)
  hl : hs.length = L
  gl : gs.length = L
  len : L = n + 2
  pw : 2 ^ vn = sz
  h : ∀ k, k < L → w1.cell? ⟨g, k, none⟩ = some (.int .i64 (hs.getD k 0))
  t : ∀ k, k < L → w1.cell? ⟨g', k, none⟩ = some (tabV sz (gs.getD k 0))
  tab : Tabs w1 w.heap.size sz gs ((funsN vn q n).map (tabF sz))
  own : ∀ k, spB B gn gu gt gc k ∨ k = S → w.heap.size ≤ k
  lt : g < w1.heap.size ∧ g' < w1.heap.size
  bel : Below w.heap.size w w1
theorem MadeI.rows {w w1 : World} {vn n : Nat} {q : Nat → Four} {S B gn gu gt gc : Nat} {vh vt : Value} (h : MadeI w vn n q S B gn gu gt gc vh vt w1) :
    ∃ sz L g g' c c' A hs gs, vh = .slice (some ⟨g, 0, none⟩) L c ∧ vt = .slice (some ⟨g', 0, none⟩) L c' ∧ RowsI w vn n sz q S B gn gu gt gc L g g' A hs gs w1 := by
  obtain ⟨A, hs, h1, h2, h3⟩ := h.is
  obtain ⟨gs, h4, h5⟩ := h.tab
  have e1 : hs.length = n + 2 := h2.len.trans (funs_len vn q n)
  have e2 : gs.length = n + 2 := by have := h5.len; rw [List.length_map, funs_len] at this; exact this
  obtain ⟨g, c, cur, rfl, _, k1, _, f1⟩ := h3.form (by omega)
  obtain ⟨g', c', cur', rfl, _, k2, _, f2⟩ := h4.form (by omega)
  refine ⟨_, n + 2, g, g', c, c', A, hs, gs, by rw [e1], by rw [e2], ⟨h1, h2, e1, e2, rfl, rfl, fun k hk => (k1.cell k).trans (f1 k (by omega)), fun k hk => (k2.cell k).trans (f2 k (by omega)), h5, h.own, ⟨k1.lt, k2.lt⟩, h.bel⟩⟩
section
variable {w w1 : World} {vn n sz : Nat} {q : Nat → Four} {S B gn gu gt gc L g g' : Nat} {A : Ar} {hs : List Int} {gs : List Nat}
theorem RowsI.below {w2 : World} (h : RowsI w vn n sz q S B gn gu gt gc L g g' A hs gs w1) (hb : Below w1.heap.size w1 w2) : RowsI w vn n sz q S B gn gu gt gc L g g' A hs gs w2 :=
  ⟨h.sp.below hb, h.ok, h.hl, h.gl, h.len, h.pw, fun k hk => (hb.cell (p := ⟨g, k, none⟩) h.lt.1).trans (h.h k hk), fun k hk => (hb.cell (p := ⟨g', k, none⟩) h.lt.2).trans (h.t k hk), h.tab.below hb, h.own,
    ⟨Nat.lt_of_lt_of_le h.lt.1 hb.size, Nat.lt_of_lt_of_le h.lt.2 hb.size⟩, h.bel.trans (hb.mono h.bel.size)⟩
/-- A function of the list. -/
def funN (vn : Nat) (q : Nat → Four) (n k : Nat) : FnB := (funsN vn q n).getD k fn0
theorem RowsI.tabk (h : RowsI w vn n sz q S B gn gu gt gc L g g' A hs gs w1) {k : Nat} (hk : k < L) : Blk w1 (gs.getD k 0) 4 (boolArr (tabF sz (funN vn q n k))) := by
  obtain ⟨_, h1, _⟩ := h.tab.is k (by rw [h.gl]; exact hk)
  have e : ((funsN vn q n).map (tabF sz)).getD k [] = tabF sz (funN vn q n k) := by
    unfold funN
    rw [List.getD_eq_getElem?_getD, List.getElem?_map, List.getD_eq_getElem?_getD, List.getElem?_eq_getElem (by rw [funs_len, ← h.len]; exact hk)]
    rfl
  rw [← e]
  exact h1
theorem RowsI.hask (h : RowsI w vn n sz q S B gn gu gt gc L g g' A hs gs w1) {k : Nat} (hk : k < L) : hasA A (hs.getD k 0) = true := h.ok.has k (by rw [h.hl]; exact hk)
theorem RowsI.denk (h : RowsI w vn n sz q S B gn gu gt gc L g g' A hs gs w1) {k : Nat} (hk : k < L) (u : Int → Bool) : den A (hs.getD k 0) u = funN vn q n k u := h.ok.den k (by rw [h.hl]; exact hk) u
theorem RowsI.same (h : RowsI w vn n sz q S B gn gu gt gc L g g' A hs gs w1) {i k : Nat} (hi : i < L) (hk : k < L) : (hs.getD i 0 == hs.getD k 0) = decide (tabF sz (funN vn q n i) = tabF sz (funN vn q n k)) := by
  have h1 := same_iff h.sp.sp (h.hask hi) (h.hask hk) (h.denk hi) (h.denk hk)
  rw [h.pw] at h1
  by_cases h2 : tabF sz (funN vn q n i) = tabF sz (funN vn q n k)
  · rw [decide_eq_true h2, h1.2 h2]; simp
  · rw [decide_eq_false h2]
    simpa using fun e => h2 (h1.1 e)
end
set_option maxRecDepth 100000 in
set_option maxHeartbeats 8000000 in
theorem lawSame_walk (vars : Int) (Al : Option Addr) (n c : Nat) (q : Nat → Four) (w : World) (hq : FourP w Al n q) :
    Calls Try.prog 3 #[.int .i64 vars, .slice Al n c] w (AtPost w true) := by
  have HM := hide (made_any vars Al n c q w hq)
  clear hq
  go_enter Try.func3, Try.ntmps3
  go_wp2_with fail
  refine (HM.out).mono ?_
  rintro e w1 (⟨_, rfl, rfl⟩ | ⟨hn, vn, rfl, h1, h6, S, B, gn, gu, gt, gc, vh, vt, rfl, hm⟩)
  · go_wp2
    go_ret
    exact ⟨rfl, Below.refl _ _⟩
  · obtain ⟨sz, L, g, g', c1, c2, A, hs, gs, rfl, rfl, hr⟩ := hm.rows
    have HR := hide hr
    have hL : L ≤ 27 := by have := hr.len; omega
    have hsz : sz ≤ 64 := by have := (pow_wrap h6 hr.pw).2.1; exact this
    clear hm hr HM
    go_wp2
    go_loopw [9] (fun iv wr => ∃ i : Nat, i ≤ L ∧ iv = .int .i64 i ∧ ∃ m, Hid (wr = w1.drewN m)) (fun iv _ => L - (intOf iv).toNat)
    case atStart => exact ⟨0, Nat.zero_le _, rfl, 0, hide rfl⟩
    case round =>
      obtain ⟨i, hi, rfl, m, HW⟩ := hrel
      by_cases hlt : i < L
      · have hiI : (i : Int) < (L : Int) := by omega
        go_wp2
        go_loopw [10] (fun iv wr => ∃ k : Nat, k ≤ L ∧ iv = .int .i64 k ∧ ∃ m, Hid (wr = w1.drewN m)) (fun iv _ => L - (intOf iv).toNat)
        case atStart => exact ⟨0, Nat.zero_le _, rfl, m, HW⟩
        case round =>
          obtain ⟨k, hk, rfl, m2, HW2⟩ := hrel
          by_cases hkl : k < L
          · have hkI : (k : Int) < (L : Int) := by omega
            have hr2 := HR.out.below (below_drewN (Below.refl _ _) m2)
            rw [← HW2.out] at hr2
            have ch1 := hr2.h i hlt
            have ch2 := hr2.h k hkl
            have ct1 := hr2.t i hlt
            have ct2 := hr2.t k hkl
            have hsame := hr2.same hlt hkl
            have HTS := hide (fun r => tabSame_any sz _ _ _ _ (wr.drewN r) ((hr2.tabk hlt).drewN r) ((hr2.tabk hkl).drewN r) (tab_len _ _) (tab_len _ _) hsz)
            clear hr2
            generalize gs.getD i 0 = p1 at ct1 HTS
            generalize gs.getD k 0 = p2 at ct2 HTS
            generalize hs.getD i 0 = x1 at ch1 hsame
            generalize hs.getD k 0 = x2 at ch2 hsame
            generalize decide (tabF sz (funN vn q n i) = tabF sz (funN vn q n k)) = b at hsame HTS
            unfold tabV at ct1 ct2 HTS
            unfold QuietB at HTS
            cases b
            all_goals
              go_wp2
              go_quiet ((go_at_call 8; refine (HTS.out _).mono ?_; rintro e w9 ⟨rfl, m9, rfl⟩; exact ⟨rfl, _, World.drewN_drewN ..⟩))
              go_wp2
              go_roundw
              case rel => exact ⟨k + 1, by omega, by go_num, m2 + nq, hide (by rw [HW2.out, World.drewN_drewN])⟩
              case measure => simp [intOf]; omega
          · obtain rfl : k = L := by omega
            go_wp2
            go_roundw
            case rel => exact ⟨i + 1, by omega, by go_num, m2, HW2⟩
            case measure => simp [intOf]; omega
      · obtain rfl : i = L := by omega
        go_wp2
        go_ret
        exact ⟨rfl, by rw [HW.out]; exact below_drewN HR.out.bel m⟩
end Go.Proofs.Ytfbhmkpihmcegaa
