/-
  A family's map keyed by any uint; where all its sets are small it is a family's map. reason.Reiter: the least sets that have something of each, worked out as a family.
-/
import Derived.Test.YtdlcldhnbhlikaaDoorFamMap
import Derived.Test.YtdlcldhnbhlikaaDoorPopA
import Derived.Test.YtdlcldhnbhlikaaDoorFamEh
namespace Go.Proofs.YtdlcldhnbhlikaaDoor
open Go.RowKit Go.Maps

theorem wfB {s : Nat} (h : s < 18446744073709551616) : (Lit.int .u64 (s : Int)).wf = true := by
  have h1 : (0 : Int) ≤ (s : Int) := by omega
  have h2 : (s : Int) ≤ 18446744073709551615 := by omega
  simp [Lit.wf, IntKind.min, IntKind.max, IntKind.signed, IntKind.bits]
  omega
theorem keyB_of {s : Nat} (h : s < 18446744073709551616) : keyOf Tryd.prog 22 (.int .u64 (s : Int)) = some (litU s) := keyOf_int_mk Tryd.underlying22 (wfB h)
/-- Which sets it has. -/
structure RdB (D : DataW Unit) (f : Nat → Bool) : Prop where
  keys : ∃ es, D = .map es ∧ ∀ p ∈ es, ∃ v : Nat, p.1 = litU v ∧ f v = true
  has : ∀ s, Maps.has D (litU s) = f s
  at_ : ∀ s, f s = true → ∀ d, D.atKey (litU s) d = .lit (.bool true)
def MapB (w : World) (g n : Nat) (f : Nat → Bool) : Prop := ∃ D, w.ownsMap Tryd.prog 22 (plainElem Tryd.prog 4) g n D ∧ RdB D f
theorem RdB.isMap {D : DataW Unit} {f : Nat → Bool} (h : RdB D f) : IsMap D := by
  obtain ⟨es, rfl, _⟩ := h.keys
  exact ⟨es, rfl⟩
section
variable {w w' : World} {g n : Nat} {f : Nat → Bool}
theorem mapB_made (w : World) : MapB (w.alloc (.map #[] 0)) w.heap.size 0 (fun _ => false) :=
  ⟨_, World.ownsMap_made _ _ _ _, ⟨[], rfl, by simp⟩, fun _ => rfl, fun _ e => (by cases e)⟩
theorem MapB.same (h : MapB w g n f) (hb : w'.heap[g]? = w.heap[g]?) : MapB w' g n f := by
  obtain ⟨D, ⟨es, clock, h1, h2⟩, h3⟩ := h
  exact ⟨D, ⟨es, clock, hb.trans h1, h2⟩, h3⟩
theorem MapB.lt (h : MapB w g n f) : g < w.heap.size := by
  obtain ⟨D, h1, _⟩ := h
  exact h1.lt
theorem MapB.congr {f' : Nat → Bool} (h : MapB w g n f) (e : ∀ s, f s = f' s) : MapB w g n f' := by rw [← show f = f' from funext e]; exact h
theorem RdB.put {D : DataW Unit} (h : RdB D f) (x : Nat) : RdB (D.put (litU x) (.lit (.bool true))) (fun y => if y = x then true else f y) := by
  have hm := h.isMap
  refine ⟨?_, fun s => ?_, fun s e d => ?_⟩
  · obtain ⟨es, rfl, hk⟩ := h.keys
    refine ⟨_, rfl, fun p hp => ?_⟩
    rcases ChangeMaps.mem_insert_iff.1 hp with e | hp
    · rw [e]; exact ⟨x, rfl, by simp⟩
    · obtain ⟨v, h1, h2⟩ := hk p (List.mem_filter.1 hp).1
      exact ⟨v, h1, by rw [h2]; simp⟩
  · by_cases e : s = x
    · subst e
      rw [if_pos rfl]
      exact has_put_same hm (show WideAt.IsKeyLit (litU _) from trivial) _
    · rw [if_neg e, has_put_other (fun e2 => e (litU_inj e2))]
      exact h.has s
  · by_cases e' : s = x
    · subst e'
      exact atKey_put_same hm (show WideAt.IsKeyLit (litU _) from trivial) _ _
    · rw [if_neg e'] at e
      rw [atKey_put_other (fun e2 => e' (litU_inj e2))]
      exact h.at_ s e d
/-- Where all its sets are small. -/
theorem MapB.small (h : MapB w g n f) (hs : ∀ s, f s = true → s < 64) : MapU w g f := by
  obtain ⟨D, h1, h2⟩ := h
  have hk : ∃ es, D = .map es ∧ ∀ p ∈ es, ∃ v : Nat, p.1 = litU v ∧ v < 64 := by
    obtain ⟨es, e, hk⟩ := h2.keys
    exact ⟨es, e, fun p hp => by obtain ⟨v, h3, h4⟩ := hk p hp; exact ⟨v, h3, hs v h4⟩⟩
  exact ⟨D, own_64 h1 hk, hk, fun s _ => h2.has s, h2.at_, hs⟩
variable {ops : Array Oper} {rest : List Oper} {o : Oper} {a : Act} {Q : Exit → Act → World → Prop}
/-- 'm[s] = true'. -/
theorem storeB (hg : o.guard = none) (mo xo yo : Operand) (t : TypeId) (hop : o.op = Op.mapUpdate t mo xo yo) (ht : Tryd.prog.underlying t = some (.map 22 4))
    (hm : a.eval mo = .map (some g)) (h : MapB w g n f) (x : Nat) (hx : a.eval xo = .int .u64 (x : Int)) (hy : a.eval yo = .bool true) (hi : x < 18446744073709551616) (hn : n ≤ 1000000)
    (hK : ∀ w', MapB w' g (n + 1) (fun y => if y = x then true else f y) → w.grownBy w' (some g) → wpList Tryd.prog ops Q rest (a.put o.dst undef) w') : wpList Tryd.prog ops Q (o :: rest) a w := by
  obtain ⟨D, h1, h2⟩ := h
  refine wpList_mapUpdate_own w hg mo xo yo t hop 22 4 keyU ht _ g n D hm h1 (by simp only [maxLen]; omega) _ _ (litU x) hx hy (keyB_of hi) (.lit (.bool true)) [] (plainElem_bool Tryd.underlying4 true) fun w' h3 h4 => ?_
  exact hK w' ⟨_, h3, h2.put x⟩ h4
end
end Go.Proofs.YtdlcldhnbhlikaaDoor
namespace Go.Proofs.YtdlcldhnbhlikaaDoor
open Go.RowKit Go.Maps

/-- The error of Reiter. -/
def reitC (things : Int) (l : List Nat) : Int := if things < 0 ∨ 24 < things then 2 else if 200 < l.length then 4 else if l.any (fun x => decide (x >>> things.toNat ≠ 0)) then 2 else 0
/-- The sets, as a family. -/
def inL (l : List Nat) (s : Nat) : Bool := decide (s ∈ l)
def ReitP (w : World) (things : Int) (l : List Nat) (e : Ending) (w' : World) : Prop :=
  ((reitC things l = 0 ∧ ∃ (vn : Nat) (v : Value), things = (vn : Int) ∧ vn ≤ 6 ∧ e = .returned (.tuple #[v, .nilIface]) ∧ OwnU w' w.heap.size v (setsL (leastG (transG vn (inL l))))) ∨ (reitC things l ≠ 0 ∧ e = .returned (.tuple #[.slice none 0 0, errV (reitC things l)]))) ∧ Below w.heap.size w w'
theorem shr_lt {x v : Nat} (h : x >>> v = 0) : x < 2 ^ v := by
  rw [Nat.shiftRight_eq_div_pow] at h
  exact (Nat.div_eq_zero_iff_lt (Nat.two_pow_pos v)).1 h
section
variable (S B gn gu gt : Nat) (w : World)
set_option maxHeartbeats 4000000 in
theorem oneBad_any (vn set : Nat) (hk : Blk w S 58 #[.pointer (some ⟨B, 0, none⟩), .int .i64 (vn : Int)]) (hv : vn ≤ 24) (hz : set >>> vn ≠ 0) :
    Calls Tryd.prog 18 #[.pointer (some ⟨S, 0, none⟩), .int .u64 (set : Int)] w (fun e w' => e = .returned (.tuple #[.int .i64 0, .iface 29 (.int .i64 2)]) ∧ w = w') := by
  have s1 := hk.cell 1
  have hmin : min vn 64 = vn := by omega
  have hzb := shr_some set vn hz
  clear hk hz
  go_enter Tryd.func18, Tryd.ntmps18
  go_wp2
  go_ret2
  exact ⟨rfl, rfl⟩
/-- Where Reiter stands. -/
structure RtI (w2 : World) (S B gn gu gt vn : Nat) (l : List Nat) (i : Nat) (ov : Value) (wr : World) : Prop where
  is : ∃ T o, ov = .int .i64 o ∧ FsM wr S B gn gu gt (vn : Int) T ∧ low3 T ≤ 7 ∧ hasA T o = true ∧ ∀ u, fam T o u = inL (l.take i) u
  ok : ∀ j, j < i → l.getD j 0 >>> vn = 0
  fr : Fr (arB B gn gu gt) w2 wr
theorem inL_snoc {l : List Nat} {i x : Nat} (ht : l.take (i + 1) = l.take i ++ [x]) (u : Nat) : (inL (l.take i) u || (u == x)) = inL (l.take (i + 1)) u := by
  unfold inL
  rw [ht, Bool.eq_iff_iff]
  simp
set_option maxRecDepth 100000 in
set_option maxHeartbeats 8000000 in
theorem reiter_any (things : Int) (A : Option Addr) (n c : Nat) (l : List Nat) (hr : RowN w A n l) (hn : n ≤ 1000000) (hT : things < 0 ∨ 24 < things ∨ (0 ≤ things ∧ things ≤ 6)) :
    Calls Tryd.prog 22 #[.int .i64 things, .slice A n c] w (ReitP w things l) := by
  have HR := hide hr
  have HLN := Lib.hid hr.len
  have HNW := hide (fNewE_any things 4000 w (by unfold I64; omega))
  clear hr
  go_enter Tryd.func22, Tryd.ntmps22
  go_wp2_with fail
  refine (HNW.out).mono ?_
  rintro e w2 (⟨hno, rfl, hb2⟩ | ⟨vn, R2, rfl, h24, hR2, _, S, B, gn, gu, gt, rfl, hN, hown, hb2⟩)
  · have hc : reitC things l = 2 := by unfold reitC; rw [if_pos (by omega)]
    have HP := hide (show ReitP w things l (.returned (.tuple #[.slice none 0 0, errV 2])) w2 from ⟨.inr ⟨by rw [hc]; decide, by rw [hc]⟩, hb2⟩)
    rw [errV_ne (by decide)] at HP ⊢
    clear hb2 hc
    go_wp2
    go_ret2
    exact HP.out
  · have h6 : vn ≤ 6 := by omega
    obtain rfl : R2 = 4000 := by omega
    have hnt : ¬ ((vn : Int) < 0 ∨ 24 < (vn : Int)) := by omega
    by_cases h200 : 200 < n
    · have hc : reitC (vn : Int) l = 4 := by unfold reitC; rw [if_neg hnt, if_pos (by rw [HLN.out]; exact h200)]
      have HP := hide (show ReitP w (vn : Int) l (.returned (.tuple #[.slice none 0 0, errV 4])) w2 from ⟨.inr ⟨by rw [hc]; decide, by rw [hc]⟩, hb2⟩)
      rw [errV_ne (by decide)] at HP
      have h2I : (200 : Int) < (n : Int) := by omega
      clear hb2 hc hN hown
      go_wp2
      go_ret2
      exact HP.out
    · have h2I : ¬ (200 : Int) < (n : Int) := by omega
      have HRC := Lib.hid (show reitC (vn : Int) l = if l.any (fun x => decide (x >>> vn ≠ 0)) then 2 else 0 by unfold reitC; rw [if_neg hnt, if_neg (by rw [HLN.out]; exact h200)]; rfl)
      have HOW := Lib.hid hown
      have HB2 := hide hb2
      have HST := hide (show RtI w2 S B gn gu gt vn l 0 (.int .i64 0) w2 from ⟨⟨emptyA 4000, 0, rfl, ⟨hN.kS, hN.ar, spZ_empty _, by omega⟩, by rw [low3_empty]; omega, has_ends.1, fun u => by rw [fam_zero]; rfl⟩, fun j hj => by omega, .refl _ _⟩)
      have HBL := Lib.hid (fun (wr : World) (hf : Fr (arB B gn gu gt) w2 wr) => show Below w.heap.size w wr from hb2.trans (hf.to_below hb2.size fun k hk hk2 => by have := hown k hk2; omega))
      clear hb2 hN hown HNW hnt hR2 hT
      go_wp2
      go_loopw [8, 28] (fun ov iv wr => ∃ i : Nat, i ≤ n ∧ iv = .int .i64 (i : Int) ∧ Hid (RtI w2 S B gn gu gt vn l i ov wr)) (fun _ iv _ => n - (intOf iv).toNat)
      case atStart => exact ⟨0, Nat.zero_le _, rfl, HST⟩
      case round =>
        clear HST
        obtain ⟨i, hi, rfl, hI⟩ := hrel
        obtain ⟨T, o, rfl, ht, hl, hp, hf⟩ := hI.out.is
        have hbw := HBL.out wr hI.out.fr
        by_cases hlt : i < n
        · have hiI : (i : Int) < (n : Int) := by omega
          obtain ⟨a, rfl, hc, hx64⟩ := (HR.out.below hbw).at_ hlt
          have hil : i < l.length := by rw [HLN.out]; exact hlt
          have HTK := Lib.hid (show l.take (i + 1) = l.take i ++ [l.getD i 0] by rw [List.take_add_one, List.getD_eq_getElem?_getD, List.getElem?_eq_getElem hil]; rfl)
          have hmem : l.getD i 0 ∈ l := by
            rw [List.getD_eq_getElem?_getD, List.getElem?_eq_getElem hil]
            exact List.getElem_mem hil
          have HOK := Lib.hid hI.out.ok
          have HFR := hide hI.out.fr
          obtain ⟨x, HXE⟩ : ∃ x, Hid (l.getD i 0 = x) := ⟨_, Lib.hid rfl⟩
          rw [HXE.out] at hc hx64 HTK hmem
          by_cases hz : x >>> vn = 0
          · have hset := shr_lt hz
            have HZ := Lib.hid hz
            have HON := hide (fzOne_any S B gn gu gt T wr vn x ht hset (by omega))
            have HT := hide ht
            have HP := Lib.hid hp
            have HFF := Lib.hid hf
            clear hI ht hp hf hset hz hmem
            go_wp2_with fail
            refine (HON.out).mono ?_
            rintro e w5 ⟨T1, y1, rfl, hs1, T1s, hf1⟩
            have hpo : hasA T1 o = true := T1s.ext.has HP.out
            have hfew1 := T1s.few
            have hc2 := c2_le (topZ_nn hs1.sp.wf o y1)
            have HOR := hide (fzOr_any S B gn gu gt (vn : Int) T1 w5 o y1 hs1 hpo T1s.has (by omega))
            have hfo : ∀ u, fam T1 o u = inL (l.take i) u := fun u => by rw [HT.out.sp.same hs1.sp T1s.ext HP.out]; exact HFF.out u
            have HFO := Lib.hid hfo
            have HY1 := Lib.hid T1s.fam
            have HF1 := hide (HFR.out.trans hf1)
            clear hs1 T1s hf1 HON hfo hpo
            go_wp2_with fail
            refine (HOR.out).mono ?_
            rintro e w6 ⟨T2, y2, rfl, hs2, T2s, hf2⟩
            have hfam2 : ∀ u, fam T2 y2 u = (fam T1 o u || fam T1 y1 u) := T2s.fam
            have HF2 := hide (HF1.out.trans hf2)
            have hba := (Below.refl w6.heap.size w6).alloc (Nat.le_refl _) (.cells #[.int .i64 y2] 3)
            have hs3 := hs2.below hba
            have HSW := hide (fzSweep_any S B gn gu gt (vn : Int) T2 _ (some ⟨w6.heap.size, 0, none⟩) 1 1 [y2] hs3 (hit_row y2) (by intro z hz; rw [List.mem_singleton.1 hz]; exact hs2.i64 T2s.has) (by omega) (fun e => by cases e))
            have HS3 := hide hs3
            have HF3 := hide (HF2.out.alloc (.cells #[.int .i64 y2] 3))
            have HH2 := Lib.hid T2s.has
            have HFA := Lib.hid (fun u => show fam T2 y2 u = inL (l.take (i + 1)) u by rw [hfam2, HFO.out, HY1.out, inL_snoc HTK.out])
            clear hs2 T2s hf2 hba hs3 HOR HF1 HF2 hfam2
            go_wp2_with fail
            refine (HSW.out).mono ?_
            rintro e w7 ⟨⟨z7, rfl⟩, hs7, hf7⟩
            have HN := hide (show RtI w2 S B gn gu gt vn l (i + 1) (.int .i64 y2) w7 from ⟨⟨sweepA T2 [y2], y2, rfl, hs7, low3_sweep HS3.out.sp.wf, sweep_has (List.mem_singleton.2 rfl) HH2.out, fun u => by rw [sweep_fam HS3.out.sp (List.mem_singleton.2 rfl) HH2.out]; exact HFA.out u⟩, fun j hj => by
              by_cases e : j = i
              · rw [e, HXE.out]; exact HZ.out
              · exact HOK.out j (by omega), HF3.out.trans hf7⟩)
            clear hs7 hf7 HSW
            go_wp2
            go_roundw
            case rel => exact ⟨i + 1, by omega, by go_num, HN⟩
            case measure => simp [intOf]; omega
          · have hcc : reitC (vn : Int) l = 2 := by rw [HRC.out, if_pos (List.any_eq_true.2 ⟨x, hmem, decide_eq_true hz⟩)]
            have HP := hide (show ReitP w (vn : Int) l (.returned (.tuple #[.slice none 0 0, .iface 29 (.int .i64 2)])) wr from ⟨.inr ⟨by rw [hcc]; decide, by rw [hcc, errV_ne (by decide)]⟩, hbw⟩)
            have HON := hide (oneBad_any S B wr vn x ht.kS h24 hz)
            clear hI ht hp hf hz hmem hcc hbw
            go_wp2_with fail
            refine (HON.out).mono ?_
            rintro e w5 ⟨rfl, rfl⟩
            go_wp2
            go_ret2
            exact HP.out
        · obtain rfl : i = n := by omega
          have htl : l.take i = l := List.take_of_length_le (by rw [HLN.out]; exact Nat.le_refl _)
          rw [htl] at hf
          have HC0 := Lib.hid (show reitC (vn : Int) l = 0 by
            rw [HRC.out, if_neg]
            intro e
            obtain ⟨x, hx, hx2⟩ := List.any_eq_true.1 e
            obtain ⟨j, hj, rfl⟩ := List.getElem_of_mem hx
            have := hI.out.ok j (by rw [← HLN.out]; exact hj)
            rw [List.getD_eq_getElem?_getD, List.getElem?_eq_getElem hj] at this
            exact (of_decide_eq_true hx2) this)
          have HHT := hide (fzHits_any S B gn gu gt vn T wr o ht hp (by omega))
          rw [show fam T o = inL l from funext hf] at HHT
          have HFR := hide hI.out.fr
          clear hI ht hp hf hbw htl
          go_wp2_with fail
          refine (HHT.out).mono ?_
          rintro e w5 ⟨A', k, rfl, hs5, hx5, hp5, hf5, hl5, hfr5⟩
          have HLS := hide (fzList_any S B gn gu gt (vn : Int) A' w5 k 5000 hs5 hp5)
          rw [show fam A' k = leastG (transG vn (inL l)) from funext hf5] at HLS
          have HB5 := hide (HBL.out w5 (HFR.out.trans hfr5))
          clear hs5 hx5 hp5 hf5 hl5 hfr5 HHT HFR
          go_wp2_with fail
          refine (HLS.out).mono ?_
          rintro e w6 ⟨⟨_, v1, rfl, hv1⟩ | ⟨hbad, _⟩, hb6⟩
          case inr => have := sets_len (leastG (transG vn (inL l))); unfold numS at hbad; omega
          have HP := hide (show ReitP w (vn : Int) l (.returned (.tuple #[v1, .nilIface])) w6 from ⟨.inl ⟨HC0.out, vn, v1, rfl, h6, rfl, hv1.mono HB5.out.size⟩, HB5.out.trans (hb6.mono HB5.out.size)⟩)
          clear hv1 hb6 HLS
          go_wp2
          go_ret2
          exact HP.out
end
end Go.Proofs.YtdlcldhnbhlikaaDoor
