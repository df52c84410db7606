/-
 The law RulesMake, walked.
-/
import Derived.Test.YtmncoldaemcnlaaGreatDoorRulesOf
import Derived.Test.YtmncoldaemcnlaaGreatDoorRuSame
import Derived.Test.YtmncoldaemcnlaaGreatDoorBoth
import Derived.Laws.EntriesVeiled
namespace Go.Proofs.YtmncoldaemcnlaaGreatDoor
open Go.RowKit
open Classical
set_option maxRecDepth 100000

theorem isErr_code {w : World} {c : Int} (h1 : 1 ≤ c) (h2 : c ≤ 13) : IsErr w (.iface 28 (.int .i64 c)) (c, -1) := .inr (.inl ⟨rfl, h1, h2, rfl⟩)
theorem wanted_of {o : Oper} {j : Nat} {b : Bool} {ops : Array Oper} {tmps : Array Value} (hg : o.guard = some (j, b)) (h : yielded ops tmps j = some b) : Region.wanted o (yielded ops tmps) = true := by
 unfold Region.wanted
 rw [hg]
 simp [h]
theorem wp_move_st {P : Program} {o : Oper} {a : Act} {w : World} {K : Act → World → Prop} {Q : Exit → Act → World → Prop} (x : Operand) (h : o.op = .move x) (hk : K (a.put o.dst (a.eval x)) w) : o.wp P a w K Q := by
 unfold Oper.wp
 rw [BigFrame.run_move x h]
 exact hk
theorem wp_assign_st {P : Program} {o : Oper} {a : Act} {w : World} {K : Act → World → Prop} {Q : Exit → Act → World → Prop} (x : Operand) (h : o.op = .assign x) (hk : K (a.put o.dst (a.eval x)) w) : o.wp P a w K Q := by
 unfold Oper.wp
 rw [BigFrame.run_assign x h]
 exact hk
/-- What both told. -/
structure RmI (w0 : World) (b n : Nat) (v vF v2 v3 vw vb : Value) (Ab : Option Addr) (nb cb : Nat) (bs : List Bool) (qs : List LnQ) (R : List RuR) (wr : World) : Prop where
 k : Blk wr b 61 #[.int .i64 (n : Int), v, vF]
 r1 : RuM wr 0 v vF (R.map (·.1)) (R.map (·.2))
 r2 : RuM wr 0 v2 v3 (R.map (·.1)) (R.map (·.2))
 ln : LnsR wr 0 vw qs
 bo : BoolsR wr Ab nb bs
 bel : Below w0.heap.size w0 wr
theorem RmI.below {w0 wr w' : World} {b n : Nat} {v vF v2 v3 vw vb : Value} {Ab : Option Addr} {nb cb : Nat} {bs : List Bool} {qs : List LnQ} {R : List RuR} (h : RmI w0 b n v vF v2 v3 vw vb Ab nb cb bs qs R wr) (hb : Below wr.heap.size wr w') : RmI w0 b n v vF v2 v3 vw vb Ab nb cb bs qs R w' :=
 ⟨h.k.below hb h.k.lt, h.r1.below hb, h.r2.below hb, h.ln.below hb, h.bo.below hb, h.bel.trans (hb.mono h.bel.size)⟩
/-- What stands behind each operation of the law's last region: a value; the items (true); the clauses of some lines (false). -/
def rmSp (g b n : Nat) (v vF v2 v3 vw vb : Value) : Nat → Value ⊕ Bool
 | 0 => .inl (.pointer (some ⟨g, 0, none⟩))
 | 1 => .inl (.bool true)
 | 2 => .inl (.bool true)
 | 3 => .inl (.nilIface)
 | 4 => .inl (.bool true)
 | 5 => .inl (.bool true)
 | 6 => .inl (.bool true)
 | 7 => .inl (.pointer (some ⟨b, 0, none⟩))
 | 8 => .inl (.int .i64 n)
 | 9 => .inl (vw)
 | 10 => .inr true
 | 11 => .inl (.int .i64 n)
 | 12 => .inl (.bool true)
 | 13 => .inl (.bool true)
 | 14 => .inl (.bool true)
 | 15 => .inl (.pointer (some ⟨b, 1, none⟩))
 | 16 => .inl (v)
 | 17 => .inl (v2)
 | 18 => .inl (.bool true)
 | 19 => .inl (.bool true)
 | 20 => .inl (.bool true)
 | 21 => .inl (.pointer (some ⟨b, 2, none⟩))
 | 22 => .inl (vF)
 | 23 => .inl (v3)
 | 24 => .inl (.bool true)
 | 25 => .inl (.bool true)
 | 26 => .inl (.bool true)
 | 27 => .inl (.agg #[.int .i64 n, v, vF])
 | 28 => .inl (vb)
 | 29 => .inr false
 | 30 => .inl (v2)
 | 31 => .inl (v3)
 | 32 => .inl (vb)
 | 33 => .inr false
 | 34 => .inl (.bool true)
 | 35 => .inl (.bool true)
 | 36 => .inl (.bool true)
 | _ => .inl undef
def rmR (its : List ItR) (R : List RuR) (bs : List Bool) (sp : Nat → Value ⊕ Bool) (i : Nat) (w : World) (v : Value) : Prop := match sp i with
 | .inl c => v = c
 | .inr true => OwnK elI w 0 v its
 | .inr false => ClK w 0 v (onlyF R bs)
theorem rmR_below (its : List ItR) (R : List RuR) (bs : List Bool) (sp : Nat → Value ⊕ Bool) (i : Nat) (w w' : World) (v : Value) (h : rmR its R bs sp i w v) (hb : Below w.heap.size w w') : rmR its R bs sp i w' v := by
 unfold rmR at h ⊢
 split
 ·rename_i e
  rw [e] at h
  exact h
 ·rename_i e
  rw [e] at h
  exact h.below hb
 ·rename_i e
  rw [e] at h
  exact h.below hb
theorem rules_from {its : List ItR} {ls : List LnR} (hn : ls.length ≤ 100) : ∀ c ∈ rulesF its ls, -1 ≤ c.2 ∧ c.2 ≤ 1000 := by
 have ht : ∀ (nm : ByteArray) (k : Nat) (l : List ItR) (i : Nat), ∀ c ∈ twinR nm k l i, c.2 = -1 := by
  intro nm k l
  induction l with
  | nil => intro i c hc; exact absurd hc List.not_mem_nil
  | cons a r ih =>
   intro i c hc
   rw [twinR] at hc
   split at hc
   ·rcases List.mem_cons.1 hc with rfl | hc
    ·rfl
    ·exact ih _ c hc
   ·exact ih _ c hc
 have ht2 : ∀ (l : List ItR) (k : Nat), ∀ c ∈ twinsR its l k, c.2 = -1 := by
  intro l
  induction l with
  | nil => intro k c hc; exact absurd hc List.not_mem_nil
  | cons a r ih =>
   intro k c hc
   rw [twinsR] at hc
   rcases List.mem_append.1 hc with hc | hc
   ·exact ht _ _ _ _ c hc
   ·exact ih _ c hc
 have hl : ∀ (l : List LnR) (k : Nat), ∀ c ∈ rusL its l k, 0 ≤ c.2 ∧ c.2 < (k : Int) + l.length := by
  intro l
  induction l with
  | nil => intro k c hc; exact absurd hc List.not_mem_nil
  | cons x r ih =>
   intro k c hc
   rw [rusL] at hc
   rw [List.length_cons]
   rcases List.mem_append.1 hc with hc | hc
   ·have : c.2 = (k : Int) := by
     unfold ruL at hc
     split at hc
     ·rw [List.mem_singleton.1 hc]
     ·split at hc
      ·rw [List.mem_singleton.1 hc]
      ·split at hc
       ·obtain ⟨z, _, rfl⟩ := List.mem_map.1 hc
        rfl
       ·exact absurd hc List.not_mem_nil
    omega
   ·have := ih _ c hc
    omega
 intro c hc
 unfold rulesF at hc
 rcases List.mem_append.1 hc with hc | hc
 ·have := ht2 _ _ c hc; omega
 ·have := hl _ _ c hc; omega
theorem upF_len (zs : List Int) : (upF zs).length = zs.length := by unfold upF; rw [List.length_map]
theorem rules_short {its : List ItR} {ls : List LnR} (h : its.length ≤ 24) : ∀ c ∈ rulesF its ls, c.1.length ≤ 1000 := by
 have ht : ∀ (nm : ByteArray) (k : Nat) (l : List ItR) (i : Nat), ∀ c ∈ twinR nm k l i, c.1.length ≤ 1000 := by
  intro nm k l
  induction l with
  | nil => intro i c hc; exact absurd hc List.not_mem_nil
  | cons a r ih =>
   intro i c hc
   rw [twinR] at hc
   split at hc
   ·rcases List.mem_cons.1 hc with rfl | hc
    ·simp
    ·exact ih _ c hc
   ·exact ih _ c hc
 have ht2 : ∀ (l : List ItR) (k : Nat), ∀ c ∈ twinsR its l k, c.1.length ≤ 1000 := by
  intro l
  induction l with
  | nil => intro k c hc; exact absurd hc List.not_mem_nil
  | cons a r ih =>
   intro k c hc
   rw [twinsR] at hc
   rcases List.mem_append.1 hc with hc | hc
   ·exact ht _ _ _ _ c hc
   ·exact ih _ c hc
 have hl : ∀ (l : List LnR) (k : Nat), ∀ c ∈ rusL its l k, c.1.length ≤ 1000 := by
  intro l
  induction l with
  | nil => intro k c hc; exact absurd hc List.not_mem_nil
  | cons x r ih =>
   intro k c hc
   rw [rusL] at hc
   rcases List.mem_append.1 hc with hc | hc
   ·have h1 := amF_len x.name x.rg its 0
    have h2 := amF_len x.other x.rg its 0
    unfold ruL at hc
    split at hc
    ·rw [List.mem_singleton.1 hc, upF_len]; omega
    ·split at hc
     ·rw [List.mem_singleton.1 hc, List.length_cons, upF_len]; omega
     ·split at hc
      ·obtain ⟨z, _, rfl⟩ := List.mem_map.1 hc
       simp
      ·exact absurd hc List.not_mem_nil
   ·exact ih _ c hc
 intro c hc
 unfold rulesF at hc
 rcases List.mem_append.1 hc with hc | hc
 ·exact ht2 _ _ c hc
 ·exact hl _ _ c hc
theorem only_len (R : List RuR) (bs : List Bool) : (onlyF R bs).length ≤ R.length := by unfold onlyF; rw [List.length_map]; exact List.length_filter_le _ _
theorem only_in {R : List RuR} {bs : List Bool} {z : List Int} (h : z ∈ onlyF R bs) : ∃ c ∈ R, c.1 = z := by
 unfold onlyF at h
 obtain ⟨c, hc, e⟩ := List.mem_map.1 h
 exact ⟨c, (List.mem_filter.1 hc).1, e⟩
set_option maxHeartbeats 16000000 in
theorem lawRules_walk (t : ByteArray) (Ab : Option Addr) (nb cb : Nat) (bs : List Bool) (w : World) (hG : GlobV w) (hF : FineP w) (hK : KindsP w) (hs : t.size ≤ 9223372036854775807) (hbo : BoolsR w Ab nb bs) : Calls Tryz.prog 5 #[.string t, .slice Ab nb cb] w (AtPost w true) := by
 have HBT := hide (both_any t w hG hF hK hs)
 have HGE := hide hG.e
 have HBO := hide hbo
 clear hG hF hK hbo
 go_enter Tryz.func5, Tryz.ntmps5
 go_wp2_with fail
 refine HBT.out.mono ?_
 rintro e w1 (⟨_, rfl, hb1⟩ | ⟨vw, g, qs, qs', its0, _, _, hqq, hcr, rfl, hl, hco, hb1⟩)
 ·have HB := hide hb1
  clear hb1 HBT
  go_wp2_with fail
  go_ret
  exact ⟨rfl, HB.out⟩
 ·have HB := hide hb1
  have HRR := hide (refRules_any vw qs its0 w1 (hl.mono (Nat.zero_le _)) hcr)
  have HCO := hide hco
  have HLN := hide (hl.mono (Nat.zero_le w.heap.size))
  have hq100 : qs.length ≤ 100 := by have := (catR_ok hcr).2.2.2.1; simpa using this
  obtain ⟨h24, _⟩ := catR_few hcr
  have HFR := Lib.hid (rules_from (its := itemsF (qs.map (·.1))) (ls := qs.map (·.1)) (by simpa using hq100))
  have HSH := Lib.hid (rules_short (its := itemsF (qs.map (·.1))) (ls := qs.map (·.1)) h24)
  have HRL := Lib.hid (rulesF_len (its := itemsF (qs.map (·.1))) (ls := qs.map (·.1)) h24 (by simpa using hq100))
  have HOF := hide (fun W (h : CatO W w.heap.size g qs') => rulesOf_any g w.heap.size qs' its0 W h (by rw [hqq]; exact hcr))
  rw [hqq] at HOF
  have HIT := Lib.hid (fun W (h : LnsR W 0 vw qs) => refItems_any vw qs W h (by omega))
  unfold ItsP at HIT
  obtain ⟨Aw, cw, rfl, _⟩ := hl.1.len
  unfold RefRuP at HRR
  unfold OfP at HOF
  obtain ⟨its, HITS⟩ : ∃ its, Hid (itemsF (qs.map (·.1)) = its) := ⟨_, Lib.hid rfl⟩
  rw [HITS.out] at HRR HOF HFR HSH HRL HIT h24
  obtain ⟨R, HRF⟩ : ∃ R, Hid (rulesF its (qs.map (·.1)) = R) := ⟨_, Lib.hid rfl⟩
  rw [HRF.out] at HRR HOF HFR HSH HRL
  clear hl hco hb1 HBT hqq hcr
  go_wp2_with fail
  refine HRR.out.mono ?_
  rintro e w2 ⟨v2, v3, rfl, hr2, hb2⟩
  have HR2 := hide (hr2.mono (Nat.zero_le _))
  have HB2 := hide (HB.out.trans (hb2.mono HB.out.size))
  have HP := hide (HOF.out w2 (HCO.out.below hb2))
  have HLN2 := hide (HLN.out.below hb2)
  clear hr2 hb2 HRR HOF HCO HLN HB
  go_wp2_with fail
  refine HP.out.mono ?_
  rintro e w3 (⟨h200, v, vF, rfl, hr1, hb3⟩ | ⟨h200, rfl, hb3⟩)
  ·have hfit : decide ((R.length : Int) ≤ 200) = true := decide_eq_true (by omega)
   have hfit2 : decide (R.length ≤ 200) = true := decide_eq_true h200
   have h200z : (R.length : Int) ≤ 200 := by omega
   have hal := (Below.refl w3.heap.size w3).alloc (Nat.le_refl _) (.cells #[.int .i64 (its.length : Int), v, vF] 61)
   have HM := hide (show RmI w w3.heap.size its.length v vF v2 v3 (.slice Aw qs.length cw) (.slice Ab nb cb) Ab nb cb bs qs R (w3.alloc (.cells #[.int .i64 (its.length : Int), v, vF] 61)) from
    ⟨Blk.new w3 _ _, (hr1.mono (Nat.zero_le _)).below hal, (HR2.out.below hb3).below hal, (HLN2.out.below hb3).below hal, (HBO.out.below ((HB2.out.trans (hb3.mono HB2.out.size)).trans (hal.mono (Nat.le_trans HB2.out.size hb3.size)))), (HB2.out.trans (hb3.mono HB2.out.size)).trans (hal.mono (Nat.le_trans HB2.out.size hb3.size))⟩)
   obtain ⟨Av, cv, Af, cf, e1, e2⟩ := hr1.form
   rw [List.length_map] at e1 e2
   clear hr1 hb3 hal HP HR2 HLN2 HB2 HBO
   subst e1 e2
   go_wp2_with fail
   generalize World.alloc _ (.cells #[.int .i64 (its.length : Int), .slice Av R.length cv, .slice Af R.length cf] 61) = w4 at HM ⊢
   generalize w3.heap.size = b at HM ⊢
   have HS1 := Lib.hid (show ∀ z ∈ R.map (·.1), z.length ≤ 1000000 from fun z hz => by obtain ⟨c, hc, e⟩ := List.mem_map.1 hz; have := HSH.out c hc; rw [← e]; omega)
   have HS2 := Lib.hid (show ∀ z ∈ onlyF R bs, z.length ≤ 1000000 from fun z hz => by obtain ⟨c, hc, e⟩ := only_in hz; have := HSH.out c hc; rw [← e]; omega)
   refine wp_region_stable (w0 := w4) (R := rmR its R bs (rmSp g b its.length (.slice Av R.length cv) (.slice Af R.length cf) v2 v3 (.slice Aw qs.length cw) (.slice Ab nb cb))) 83 (by kernel_rfl) rfl (rmR_below _ _ _ _) (by kernel_rfl) (by kernel_rfl) (by kernel_rfl) ?step ?fin
   case fin =>
    intro listed a ww hall hI
    obtain ⟨q4, r4, s4⟩ := hI.new 36 _ 4 rfl rfl (hall 36 (by decide))
    obtain rfl : q4 = .bool true := s4
    have hM := HM.out.below hI.bel
    go_wp2
    exact bodyPost_ret (v := .bool true) (by simp [results, Tryz.results5, go_sem, r4]) (hI.defers.trans rfl) ⟨rfl, hM.bel⟩
   case step =>
    intro i o listed a ww ho hr hI
    have hM := HM.out.below hI.bel
    have ho2 := ho
    have hlt : i < 37 := (Array.getElem?_eq_some_iff.1 ho).1
    rcases (show i = 0 ∨ i = 1 ∨ i = 2 ∨ i = 3 ∨ i = 4 ∨ i = 5 ∨ i = 6 ∨ i = 7 ∨ i = 8 ∨ i = 9 ∨ i = 10 ∨ i = 11 ∨ i = 12 ∨ i = 13 ∨ i = 14 ∨ i = 15 ∨ i = 16 ∨ i = 17 ∨ i = 18 ∨ i = 19 ∨ i = 20 ∨ i = 21 ∨ i = 22 ∨ i = 23 ∨ i = 24 ∨ i = 25 ∨ i = 26 ∨ i = 27 ∨ i = 28 ∨ i = 29 ∨ i = 30 ∨ i = 31 ∨ i = 32 ∨ i = 33 ∨ i = 34 ∨ i = 35 ∨ i = 36 by omega) with rfl | rfl | rfl | rfl | rfl | rfl | rfl | rfl | rfl | rfl | rfl | rfl | rfl | rfl | rfl | rfl | rfl | rfl | rfl | rfl | rfl | rfl | rfl | rfl | rfl | rfl | rfl | rfl | rfl | rfl | rfl | rfl | rfl | rfl | rfl | rfl | rfl
    ·injection ho with ho
     subst ho
     have r5 := hI.was (k := 5) (v := .pointer (some ⟨g, 0, none⟩)) (by kernel_rfl) rfl
     have e5 := eval_slot r5
     refine ⟨rfl, wp_move_st (.tmp 5) rfl ?_⟩
     exact ⟨_, by rw [e5], rfl, Below.refl _ _⟩
    ·injection ho with ho
     subst ho
     obtain ⟨q47, r47, s47⟩ := hI.got hr ho2 0 47 (by kernel_rfl) rfl rfl
     rw [show q47 = .pointer (some ⟨g, 0, none⟩) from s47] at r47
     have e47 := eval_slot r47
     refine ⟨rfl, ?_⟩
     clear hI hr
     go_simp
     exact ⟨_, rfl, rfl, Below.refl _ _⟩
    ·injection ho with ho
     subst ho
     obtain ⟨q48, r48, s48⟩ := hI.got hr ho2 1 48 (by kernel_rfl) rfl rfl
     rw [show q48 = .bool true from s48] at r48
     have e48 := eval_slot r48
     refine ⟨rfl, wp_move_st (.tmp 48) rfl ?_⟩
     exact ⟨_, by rw [e48], rfl, Below.refl _ _⟩
    ·injection ho with ho
     subst ho
     obtain ⟨q49, r49, s49⟩ := hI.got hr ho2 2 49 (by kernel_rfl) rfl rfl
     rw [show q49 = .bool true from s49] at r49
     have r12 := hI.was (k := 12) (v := .nilIface) (by kernel_rfl) rfl
     have e12 := eval_slot r12
     refine ⟨wanted_of (j := 2) (b := true) rfl (yielded_slot (j := 2) (d := 49) rfl rfl r49), wp_move_st (.tmp 12) rfl ?_⟩
     exact ⟨_, by rw [e12], rfl, Below.refl _ _⟩
    ·injection ho with ho
     subst ho
     obtain ⟨q49, r49, s49⟩ := hI.got hr ho2 2 49 (by kernel_rfl) rfl rfl
     rw [show q49 = .bool true from s49] at r49
     obtain ⟨q50, r50, s50⟩ := hI.got hr ho2 3 50 (by kernel_rfl) rfl rfl
     rw [show q50 = .nilIface from s50] at r50
     have e50 := eval_slot r50
     refine ⟨wanted_of (j := 2) (b := true) rfl (yielded_slot (j := 2) (d := 49) rfl rfl r49), ?_⟩
     clear hI hr
     go_simp
     exact ⟨_, rfl, rfl, Below.refl _ _⟩
    ·injection ho with ho
     subst ho
     obtain ⟨q49, r49, s49⟩ := hI.got hr ho2 2 49 (by kernel_rfl) rfl rfl
     rw [show q49 = .bool true from s49] at r49
     have e49 := eval_slot r49
     obtain ⟨q51, r51, s51⟩ := hI.got hr ho2 4 51 (by kernel_rfl) rfl rfl
     rw [show q51 = .bool true from s51] at r51
     have e51 := eval_slot r51
     refine ⟨rfl, ?_⟩
     clear hI hr
     go_simp
     exact ⟨_, rfl, rfl, Below.refl _ _⟩
    ·injection ho with ho
     subst ho
     obtain ⟨q52, r52, s52⟩ := hI.got hr ho2 5 52 (by kernel_rfl) rfl rfl
     rw [show q52 = .bool true from s52] at r52
     have e52 := eval_slot r52
     refine ⟨rfl, wp_move_st (.tmp 52) rfl ?_⟩
     exact ⟨_, by rw [e52], rfl, Below.refl _ _⟩
    ·injection ho with ho
     subst ho
     obtain ⟨q53, r53, s53⟩ := hI.got hr ho2 6 53 (by kernel_rfl) rfl rfl
     rw [show q53 = .bool true from s53] at r53
     have r11 := hI.was (k := 11) (v := .pointer (some ⟨b, 0, none⟩)) (by kernel_rfl) rfl
     have e11 := eval_slot r11
     refine ⟨wanted_of (j := 6) (b := true) rfl (yielded_slot (j := 6) (d := 53) rfl rfl r53), ?_⟩
     clear hI hr
     go_simp
     exact ⟨_, rfl, rfl, Below.refl _ _⟩
    ·injection ho with ho
     subst ho
     obtain ⟨q53, r53, s53⟩ := hI.got hr ho2 6 53 (by kernel_rfl) rfl rfl
     rw [show q53 = .bool true from s53] at r53
     obtain ⟨q54, r54, s54⟩ := hI.got hr ho2 7 54 (by kernel_rfl) rfl rfl
     rw [show q54 = .pointer (some ⟨b, 0, none⟩) from s54] at r54
     have e54 := eval_slot r54
     have y : ww.cell? ⟨b, 0, none⟩ = some (.int .i64 (its.length : Int)) := hM.k.cell 0
     refine ⟨wanted_of (j := 6) (b := true) rfl (yielded_slot (j := 6) (d := 53) rfl rfl r53), ?_⟩
     clear hI hr
     go_simp
     exact ⟨_, rfl, rfl, Below.refl _ _⟩
    ·injection ho with ho
     subst ho
     obtain ⟨q53, r53, s53⟩ := hI.got hr ho2 6 53 (by kernel_rfl) rfl rfl
     rw [show q53 = .bool true from s53] at r53
     have r6 := hI.was (k := 6) (v := .slice Aw qs.length cw) (by kernel_rfl) rfl
     have e6 := eval_slot r6
     refine ⟨wanted_of (j := 6) (b := true) rfl (yielded_slot (j := 6) (d := 53) rfl rfl r53), wp_move_st (.tmp 6) rfl ?_⟩
     exact ⟨_, by rw [e6], rfl, Below.refl _ _⟩
    ·injection ho with ho
     subst ho
     obtain ⟨q53, r53, s53⟩ := hI.got hr ho2 6 53 (by kernel_rfl) rfl rfl
     rw [show q53 = .bool true from s53] at r53
     obtain ⟨q56, r56, s56⟩ := hI.got hr ho2 9 56 (by kernel_rfl) rfl rfl
     rw [show q56 = (.slice Aw qs.length cw) from s56] at r56
     have e56 := eval_slot r56
     refine ⟨wanted_of (j := 6) (b := true) rfl (yielded_slot (j := 6) (d := 53) rfl rfl r53), ?_⟩
     clear hI hr
     go_simp
     refine (HIT.out ww hM.ln).mono ?_
     rintro e w9 ⟨u9, rfl, ho9, hb⟩
     exact ⟨_, rfl, ho9.mono (Nat.zero_le _), hb⟩
    ·injection ho with ho
     subst ho
     obtain ⟨q53, r53, s53⟩ := hI.got hr ho2 6 53 (by kernel_rfl) rfl rfl
     rw [show q53 = .bool true from s53] at r53
     obtain ⟨q57, r57, s57⟩ := hI.got hr ho2 10 57 (by kernel_rfl) rfl rfl
     have hu57 : OwnK elI ww 0 q57 its := s57
     obtain ⟨A9, c9, hv9, _⟩ := hu57.len
     subst hv9
     have e57 := eval_slot r57
     refine ⟨wanted_of (j := 6) (b := true) rfl (yielded_slot (j := 6) (d := 53) rfl rfl r53), ?_⟩
     clear hI hr
     go_simp
     exact ⟨_, rfl, rfl, Below.refl _ _⟩
    ·injection ho with ho
     subst ho
     obtain ⟨q53, r53, s53⟩ := hI.got hr ho2 6 53 (by kernel_rfl) rfl rfl
     rw [show q53 = .bool true from s53] at r53
     obtain ⟨q55, r55, s55⟩ := hI.got hr ho2 8 55 (by kernel_rfl) rfl rfl
     rw [show q55 = .int .i64 (its.length : Int) from s55] at r55
     have e55 := eval_slot r55
     obtain ⟨q58, r58, s58⟩ := hI.got hr ho2 11 58 (by kernel_rfl) rfl rfl
     rw [show q58 = .int .i64 (its.length : Int) from s58] at r58
     have e58 := eval_slot r58
     refine ⟨wanted_of (j := 6) (b := true) rfl (yielded_slot (j := 6) (d := 53) rfl rfl r53), ?_⟩
     clear hI hr
     go_simp
     exact ⟨_, rfl, rfl, Below.refl _ _⟩
    ·injection ho with ho
     subst ho
     obtain ⟨q53, r53, s53⟩ := hI.got hr ho2 6 53 (by kernel_rfl) rfl rfl
     rw [show q53 = .bool true from s53] at r53
     have e53 := eval_slot r53
     obtain ⟨q59, r59, s59⟩ := hI.got hr ho2 12 59 (by kernel_rfl) rfl rfl
     rw [show q59 = .bool true from s59] at r59
     have e59 := eval_slot r59
     refine ⟨rfl, ?_⟩
     clear hI hr
     go_simp
     exact ⟨_, rfl, rfl, Below.refl _ _⟩
    ·injection ho with ho
     subst ho
     obtain ⟨q60, r60, s60⟩ := hI.got hr ho2 13 60 (by kernel_rfl) rfl rfl
     rw [show q60 = .bool true from s60] at r60
     have e60 := eval_slot r60
     refine ⟨rfl, wp_move_st (.tmp 60) rfl ?_⟩
     exact ⟨_, by rw [e60], rfl, Below.refl _ _⟩
    ·injection ho with ho
     subst ho
     obtain ⟨q61, r61, s61⟩ := hI.got hr ho2 14 61 (by kernel_rfl) rfl rfl
     rw [show q61 = .bool true from s61] at r61
     have r11 := hI.was (k := 11) (v := .pointer (some ⟨b, 0, none⟩)) (by kernel_rfl) rfl
     have e11 := eval_slot r11
     refine ⟨wanted_of (j := 14) (b := true) rfl (yielded_slot (j := 14) (d := 61) rfl rfl r61), ?_⟩
     clear hI hr
     go_simp
     exact ⟨_, rfl, rfl, Below.refl _ _⟩
    ·injection ho with ho
     subst ho
     obtain ⟨q61, r61, s61⟩ := hI.got hr ho2 14 61 (by kernel_rfl) rfl rfl
     rw [show q61 = .bool true from s61] at r61
     obtain ⟨q62, r62, s62⟩ := hI.got hr ho2 15 62 (by kernel_rfl) rfl rfl
     rw [show q62 = .pointer (some ⟨b, 1, none⟩) from s62] at r62
     have e62 := eval_slot r62
     have y : ww.cell? ⟨b, 1, none⟩ = some (.slice Av R.length cv) := hM.k.cell 1
     refine ⟨wanted_of (j := 14) (b := true) rfl (yielded_slot (j := 14) (d := 61) rfl rfl r61), ?_⟩
     clear hI hr
     go_simp
     exact ⟨_, rfl, rfl, Below.refl _ _⟩
    ·injection ho with ho
     subst ho
     obtain ⟨q61, r61, s61⟩ := hI.got hr ho2 14 61 (by kernel_rfl) rfl rfl
     rw [show q61 = .bool true from s61] at r61
     have r8 := hI.was (k := 8) (v := v2) (by kernel_rfl) rfl
     have e8 := eval_slot r8
     refine ⟨wanted_of (j := 14) (b := true) rfl (yielded_slot (j := 14) (d := 61) rfl rfl r61), wp_move_st (.tmp 8) rfl ?_⟩
     exact ⟨_, by rw [e8], rfl, Below.refl _ _⟩
    ·injection ho with ho
     subst ho
     obtain ⟨q61, r61, s61⟩ := hI.got hr ho2 14 61 (by kernel_rfl) rfl rfl
     rw [show q61 = .bool true from s61] at r61
     obtain ⟨q63, r63, s63⟩ := hI.got hr ho2 16 63 (by kernel_rfl) rfl rfl
     rw [show q63 = .slice Av R.length cv from s63] at r63
     have e63 := eval_slot r63
     obtain ⟨q64, r64, s64⟩ := hI.got hr ho2 17 64 (by kernel_rfl) rfl rfl
     rw [show q64 = v2 from s64] at r64
     have e64 := eval_slot r64
     refine ⟨wanted_of (j := 14) (b := true) rfl (yielded_slot (j := 14) (d := 61) rfl rfl r61), ?_⟩
     clear hI hr
     go_simp
     refine (sameCl_any (.slice Av R.length cv) v2 (R.map (·.1)) ww hM.r1.cl hM.r2.cl (by rw [List.length_map]; omega) HS1.out).mono ?_
     rintro e w9 ⟨rfl, q9, rfl⟩
     exact ⟨_, rfl, rfl, below_drewN (Below.refl _ _) q9⟩
    ·injection ho with ho
     subst ho
     obtain ⟨q61, r61, s61⟩ := hI.got hr ho2 14 61 (by kernel_rfl) rfl rfl
     rw [show q61 = .bool true from s61] at r61
     have e61 := eval_slot r61
     obtain ⟨q65, r65, s65⟩ := hI.got hr ho2 18 65 (by kernel_rfl) rfl rfl
     rw [show q65 = .bool true from s65] at r65
     have e65 := eval_slot r65
     refine ⟨rfl, ?_⟩
     clear hI hr
     go_simp
     exact ⟨_, rfl, rfl, Below.refl _ _⟩
    ·injection ho with ho
     subst ho
     obtain ⟨q66, r66, s66⟩ := hI.got hr ho2 19 66 (by kernel_rfl) rfl rfl
     rw [show q66 = .bool true from s66] at r66
     have e66 := eval_slot r66
     refine ⟨rfl, wp_move_st (.tmp 66) rfl ?_⟩
     exact ⟨_, by rw [e66], rfl, Below.refl _ _⟩
    ·injection ho with ho
     subst ho
     obtain ⟨q67, r67, s67⟩ := hI.got hr ho2 20 67 (by kernel_rfl) rfl rfl
     rw [show q67 = .bool true from s67] at r67
     have r11 := hI.was (k := 11) (v := .pointer (some ⟨b, 0, none⟩)) (by kernel_rfl) rfl
     have e11 := eval_slot r11
     refine ⟨wanted_of (j := 20) (b := true) rfl (yielded_slot (j := 20) (d := 67) rfl rfl r67), ?_⟩
     clear hI hr
     go_simp
     exact ⟨_, rfl, rfl, Below.refl _ _⟩
    ·injection ho with ho
     subst ho
     obtain ⟨q67, r67, s67⟩ := hI.got hr ho2 20 67 (by kernel_rfl) rfl rfl
     rw [show q67 = .bool true from s67] at r67
     obtain ⟨q68, r68, s68⟩ := hI.got hr ho2 21 68 (by kernel_rfl) rfl rfl
     rw [show q68 = .pointer (some ⟨b, 2, none⟩) from s68] at r68
     have e68 := eval_slot r68
     have y : ww.cell? ⟨b, 2, none⟩ = some (.slice Af R.length cf) := hM.k.cell 2
     refine ⟨wanted_of (j := 20) (b := true) rfl (yielded_slot (j := 20) (d := 67) rfl rfl r67), ?_⟩
     clear hI hr
     go_simp
     exact ⟨_, rfl, rfl, Below.refl _ _⟩
    ·injection ho with ho
     subst ho
     obtain ⟨q67, r67, s67⟩ := hI.got hr ho2 20 67 (by kernel_rfl) rfl rfl
     rw [show q67 = .bool true from s67] at r67
     have r9 := hI.was (k := 9) (v := v3) (by kernel_rfl) rfl
     have e9 := eval_slot r9
     refine ⟨wanted_of (j := 20) (b := true) rfl (yielded_slot (j := 20) (d := 67) rfl rfl r67), wp_move_st (.tmp 9) rfl ?_⟩
     exact ⟨_, by rw [e9], rfl, Below.refl _ _⟩
    ·injection ho with ho
     subst ho
     obtain ⟨q67, r67, s67⟩ := hI.got hr ho2 20 67 (by kernel_rfl) rfl rfl
     rw [show q67 = .bool true from s67] at r67
     obtain ⟨q69, r69, s69⟩ := hI.got hr ho2 22 69 (by kernel_rfl) rfl rfl
     rw [show q69 = .slice Af R.length cf from s69] at r69
     have e69 := eval_slot r69
     obtain ⟨q70, r70, s70⟩ := hI.got hr ho2 23 70 (by kernel_rfl) rfl rfl
     rw [show q70 = v3 from s70] at r70
     have e70 := eval_slot r70
     refine ⟨wanted_of (j := 20) (b := true) rfl (yielded_slot (j := 20) (d := 67) rfl rfl r67), ?_⟩
     clear hI hr
     go_simp
     refine (sameOwn_any (.slice Af R.length cf) v3 (R.map (·.2)) ww hM.r1.fro hM.r2.fro (by rw [List.length_map]; omega)).mono ?_
     rintro e w9 ⟨rfl, q9, rfl⟩
     exact ⟨_, rfl, rfl, below_drewN (Below.refl _ _) q9⟩
    ·injection ho with ho
     subst ho
     obtain ⟨q67, r67, s67⟩ := hI.got hr ho2 20 67 (by kernel_rfl) rfl rfl
     rw [show q67 = .bool true from s67] at r67
     have e67 := eval_slot r67
     obtain ⟨q71, r71, s71⟩ := hI.got hr ho2 24 71 (by kernel_rfl) rfl rfl
     rw [show q71 = .bool true from s71] at r71
     have e71 := eval_slot r71
     refine ⟨rfl, ?_⟩
     clear hI hr
     go_simp
     exact ⟨_, rfl, rfl, Below.refl _ _⟩
    ·injection ho with ho
     subst ho
     obtain ⟨q72, r72, s72⟩ := hI.got hr ho2 25 72 (by kernel_rfl) rfl rfl
     rw [show q72 = .bool true from s72] at r72
     have e72 := eval_slot r72
     refine ⟨rfl, wp_move_st (.tmp 72) rfl ?_⟩
     exact ⟨_, by rw [e72], rfl, Below.refl _ _⟩
    ·injection ho with ho
     subst ho
     obtain ⟨q73, r73, s73⟩ := hI.got hr ho2 26 73 (by kernel_rfl) rfl rfl
     rw [show q73 = .bool true from s73] at r73
     have r11 := hI.was (k := 11) (v := .pointer (some ⟨b, 0, none⟩)) (by kernel_rfl) rfl
     have e11 := eval_slot r11
     have y0 : ww.cell? ⟨b, 0, none⟩ = some (.int .i64 (its.length : Int)) := hM.k.cell 0
     have y1 : ww.cell? ⟨b, 1, none⟩ = some (.slice Av R.length cv) := hM.k.cell 1
     have y2 : ww.cell? ⟨b, 2, none⟩ = some (.slice Af R.length cf) := hM.k.cell 2
     refine ⟨wanted_of (j := 26) (b := true) rfl (yielded_slot (j := 26) (d := 73) rfl rfl r73), ?_⟩
     clear hI hr
     go_simp
     exact ⟨_, rfl, rfl, Below.refl _ _⟩
    ·injection ho with ho
     subst ho
     obtain ⟨q73, r73, s73⟩ := hI.got hr ho2 26 73 (by kernel_rfl) rfl rfl
     rw [show q73 = .bool true from s73] at r73
     have r1 := hI.was (k := 1) (v := .slice Ab nb cb) (by kernel_rfl) rfl
     have e1 := eval_slot r1
     refine ⟨wanted_of (j := 26) (b := true) rfl (yielded_slot (j := 26) (d := 73) rfl rfl r73), wp_move_st (.tmp 1) rfl ?_⟩
     exact ⟨_, by rw [e1], rfl, Below.refl _ _⟩
    ·injection ho with ho
     subst ho
     obtain ⟨q73, r73, s73⟩ := hI.got hr ho2 26 73 (by kernel_rfl) rfl rfl
     rw [show q73 = .bool true from s73] at r73
     obtain ⟨q74, r74, s74⟩ := hI.got hr ho2 27 74 (by kernel_rfl) rfl rfl
     rw [show q74 = .agg #[.int .i64 (its.length : Int), .slice Av R.length cv, .slice Af R.length cf] from s74] at r74
     have e74 := eval_slot r74
     obtain ⟨q75, r75, s75⟩ := hI.got hr ho2 28 75 (by kernel_rfl) rfl rfl
     rw [show q75 = (.slice Ab nb cb) from s75] at r75
     have e75 := eval_slot r75
     refine ⟨wanted_of (j := 26) (b := true) rfl (yielded_slot (j := 26) (d := 73) rfl rfl r73), ?_⟩
     clear hI hr
     go_simp
     refine (only_any (.int .i64 (its.length : Int)) (.slice Av R.length cv) (.slice Af R.length cf) R 0 Ab nb cb bs ww hM.r1 HFR.out hM.bo (by omega)).mono ?_
     rintro e w9 ⟨u9, rfl, ho9, hb⟩
     exact ⟨_, rfl, ho9.mono (Nat.zero_le _), hb⟩
    ·injection ho with ho
     subst ho
     obtain ⟨q73, r73, s73⟩ := hI.got hr ho2 26 73 (by kernel_rfl) rfl rfl
     rw [show q73 = .bool true from s73] at r73
     have r8 := hI.was (k := 8) (v := v2) (by kernel_rfl) rfl
     have e8 := eval_slot r8
     refine ⟨wanted_of (j := 26) (b := true) rfl (yielded_slot (j := 26) (d := 73) rfl rfl r73), wp_move_st (.tmp 8) rfl ?_⟩
     exact ⟨_, by rw [e8], rfl, Below.refl _ _⟩
    ·injection ho with ho
     subst ho
     obtain ⟨q73, r73, s73⟩ := hI.got hr ho2 26 73 (by kernel_rfl) rfl rfl
     rw [show q73 = .bool true from s73] at r73
     have r9 := hI.was (k := 9) (v := v3) (by kernel_rfl) rfl
     have e9 := eval_slot r9
     refine ⟨wanted_of (j := 26) (b := true) rfl (yielded_slot (j := 26) (d := 73) rfl rfl r73), wp_move_st (.tmp 9) rfl ?_⟩
     exact ⟨_, by rw [e9], rfl, Below.refl _ _⟩
    ·injection ho with ho
     subst ho
     obtain ⟨q73, r73, s73⟩ := hI.got hr ho2 26 73 (by kernel_rfl) rfl rfl
     rw [show q73 = .bool true from s73] at r73
     have r1 := hI.was (k := 1) (v := .slice Ab nb cb) (by kernel_rfl) rfl
     have e1 := eval_slot r1
     refine ⟨wanted_of (j := 26) (b := true) rfl (yielded_slot (j := 26) (d := 73) rfl rfl r73), wp_move_st (.tmp 1) rfl ?_⟩
     exact ⟨_, by rw [e1], rfl, Below.refl _ _⟩
    ·injection ho with ho
     subst ho
     obtain ⟨q73, r73, s73⟩ := hI.got hr ho2 26 73 (by kernel_rfl) rfl rfl
     rw [show q73 = .bool true from s73] at r73
     obtain ⟨q77, r77, s77⟩ := hI.got hr ho2 30 77 (by kernel_rfl) rfl rfl
     rw [show q77 = v2 from s77] at r77
     have e77 := eval_slot r77
     obtain ⟨q78, r78, s78⟩ := hI.got hr ho2 31 78 (by kernel_rfl) rfl rfl
     rw [show q78 = v3 from s78] at r78
     have e78 := eval_slot r78
     obtain ⟨q79, r79, s79⟩ := hI.got hr ho2 32 79 (by kernel_rfl) rfl rfl
     rw [show q79 = (.slice Ab nb cb) from s79] at r79
     have e79 := eval_slot r79
     refine ⟨wanted_of (j := 26) (b := true) rfl (yielded_slot (j := 26) (d := 73) rfl rfl r73), ?_⟩
     clear hI hr
     go_simp
     refine (refOnly_any v2 v3 R 0 Ab nb cb bs ww hM.r2 HFR.out hM.bo (by omega)).mono ?_
     rintro e w9 ⟨u9, rfl, ho9, hb⟩
     exact ⟨_, rfl, ho9.mono (Nat.zero_le _), hb⟩
    ·injection ho with ho
     subst ho
     obtain ⟨q73, r73, s73⟩ := hI.got hr ho2 26 73 (by kernel_rfl) rfl rfl
     rw [show q73 = .bool true from s73] at r73
     obtain ⟨q76, r76, s76⟩ := hI.got hr ho2 29 76 (by kernel_rfl) rfl rfl
     have hu76 : ClK ww 0 q76 (onlyF R bs) := s76
     have e76 := eval_slot r76
     obtain ⟨q80, r80, s80⟩ := hI.got hr ho2 33 80 (by kernel_rfl) rfl rfl
     have hu80 : ClK ww 0 q80 (onlyF R bs) := s80
     have e80 := eval_slot r80
     refine ⟨wanted_of (j := 26) (b := true) rfl (yielded_slot (j := 26) (d := 73) rfl rfl r73), ?_⟩
     clear hI hr
     go_simp
     refine (sameCl_any q76 q80 (onlyF R bs) ww hu76 hu80 (Nat.le_trans (only_len _ _) (by omega)) HS2.out).mono ?_
     rintro e w9 ⟨rfl, q9, rfl⟩
     exact ⟨_, rfl, rfl, below_drewN (Below.refl _ _) q9⟩
    ·injection ho with ho
     subst ho
     obtain ⟨q73, r73, s73⟩ := hI.got hr ho2 26 73 (by kernel_rfl) rfl rfl
     rw [show q73 = .bool true from s73] at r73
     have e73 := eval_slot r73
     obtain ⟨q81, r81, s81⟩ := hI.got hr ho2 34 81 (by kernel_rfl) rfl rfl
     rw [show q81 = .bool true from s81] at r81
     have e81 := eval_slot r81
     refine ⟨rfl, ?_⟩
     clear hI hr
     go_simp
     exact ⟨_, rfl, rfl, Below.refl _ _⟩
    ·injection ho with ho
     subst ho
     obtain ⟨q82, r82, s82⟩ := hI.got hr ho2 35 82 (by kernel_rfl) rfl rfl
     rw [show q82 = .bool true from s82] at r82
     have e82 := eval_slot r82
     refine ⟨rfl, wp_assign_st (.tmp 82) rfl ?_⟩
     exact ⟨_, by rw [e82], rfl, Below.refl _ _⟩
  ·have hfit : decide ((R.length : Int) ≤ 200) = false := decide_eq_false (by omega)
   have hfit2 : decide (R.length ≤ 200) = false := decide_eq_false (by omega)
   have h200z : ¬ (R.length : Int) ≤ 200 := by omega
   have hal := (Below.refl w3.heap.size w3).alloc (Nat.le_refl _) (.cells #[.int .i64 0, .slice none 0 0, .slice none 0 0] 61)
   have HK := hide (Blk.new w3 61 #[.int .i64 0, .slice none 0 0, .slice none 0 0])
   have HB3 := hide ((HB2.out.trans (hb3.mono HB2.out.size)).trans (hal.mono (Nat.le_trans HB2.out.size hb3.size)))
   have HBA := hide (bareB_any (.iface 28 (.int .i64 4)) 4 (w3.alloc (.cells #[.int .i64 0, .slice none 0 0, .slice none 0 0] 61)) (HGE.out.below HB3.out) (isErr_code (c := 4) (by omega) (by omega)))
   clear hb3 hal HP HR2 HLN2 HB2 HBO
   go_wp2_with fail
   generalize World.alloc _ (.cells #[.int .i64 0, .slice none 0 0, .slice none 0 0] 61) = w4 at HK HB3 HBA ⊢
   generalize w3.heap.size = b at HK ⊢
   refine HBA.out.mono ?_
   rintro e w5 ⟨rfl, hb5⟩
   have hk := HK.out.below hb5 HK.out.lt
   have k0 := hk.cell 0
   have k1 := hk.cell 1
   have HB5 := hide (HB3.out.trans (hb5.mono HB3.out.size))
   clear hb5 hk
   go_wp2_with fail
   go_ret
   exact ⟨rfl, HB5.out⟩
end Go.Proofs.YtmncoldaemcnlaaGreatDoor
