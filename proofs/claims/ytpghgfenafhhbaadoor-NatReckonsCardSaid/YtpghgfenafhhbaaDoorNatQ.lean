/-
  count's Parse.
-/
import Derived.Test.YtpghgfenafhhbaaDoorNatP
import Derived.Test.YtpghgfenafhhbaaDoorNatAdd
import Derived.Deep.RegionWith
namespace Go.Proofs.YtpghgfenafhhbaaDoor
open Go.RowKit Go.Shelf Go.Lib

def errI (c : Int) : Value := if c = 0 then .nilIface else .iface 32 (.int .i64 c)
noncomputable def numN (s : ByteArray) : Nat := if numE s = 0 then decV s.data.toList else 0
def ParsePost (w : World) (s : ByteArray) (e : Ending) (w' : World) : Prop := ∃ v, e = .returned (.tuple #[v, errI (numE s)]) ∧ NatV w' v (numN s) ∧ Below w.heap.size w w'
theorem natV_nil (w : World) : NatV w (.agg #[.slice none 0 0]) 0 := BigV.nil w
theorem parseNo {w w' : World} {s : ByteArray} {c : Int} (h : numE s = c) (hc : c ≠ 0) (hb : Below w.heap.size w w') : ParsePost w s (.returned (.tuple #[.agg #[.slice none 0 0], .iface 32 (.int .i64 c)])) w' :=
  ⟨_, by unfold errI; rw [h, if_neg hc], by unfold numN; rw [h, if_neg hc]; exact natV_nil w', hb⟩
theorem parseYes {w w' : World} {s : ByteArray} {v : Value} (h : numE s = 0) (hv : NatV w' v (decV s.data.toList)) (hb : Below w.heap.size w w') : ParsePost w s (.returned (.tuple #[v, .nilIface])) w' :=
  ⟨_, by unfold errI; rw [h, if_pos rfl], by unfold numN; rw [h, if_pos rfl]; exact hv, hb⟩

theorem drop_nil (p : UInt8 → Bool) : ∀ l : List UInt8, l.dropWhile p = [] ↔ ∀ c ∈ l, p c = true := by
  intro l
  induction l with
  | nil => simp
  | cons a l ih =>
    by_cases h : p a = true
    · rw [List.dropWhile_cons_of_pos h, ih]
      simp [h]
    · rw [List.dropWhile_cons_of_neg h]
      simp [h]
theorem drop_head (p : UInt8 → Bool) : ∀ l : List UInt8, l.dropWhile p ≠ [] → ∃ a ∈ l.dropWhile p, p a = false := by
  intro l
  induction l with
  | nil => intro h; exact absurd rfl h
  | cons a l ih =>
    intro h
    by_cases hp : p a = true
    · rw [List.dropWhile_cons_of_pos hp] at h ⊢
      exact ih h
    · rw [List.dropWhile_cons_of_neg hp]
      exact ⟨a, List.mem_cons_self .., by simpa using hp⟩
def digCut : List UInt8 := [48, 49, 50, 51, 52, 53, 54, 55, 56, 57]
theorem cut_dig (c : UInt8) : digCut.contains c = isDig c := by
  have h : ∀ n : Fin 256, digCut.contains (UInt8.ofNat n.val) = isDig (UInt8.ofNat n.val) := by decide +kernel
  have := h ⟨c.toNat, c.toNat_lt⟩
  simpa using this
theorem trim_dig (l : List UInt8) : Lib.trimS l digCut = [] ↔ ∀ c ∈ l, isDig c = true := by
  unfold Lib.trimS Lib.trimLeftS Lib.trimRightS
  rw [drop_nil]
  constructor
  · intro h
    by_cases hn : l.reverse.dropWhile (digCut.contains ·) = []
    · have := (drop_nil _ _).1 hn
      intro c hc
      rw [← cut_dig]
      exact this c (List.mem_reverse.2 hc)
    · obtain ⟨a, ha, hp⟩ := drop_head _ _ hn
      have := h a (List.mem_reverse.2 ha)
      rw [hp] at this
      cases this
  · intro h c hc
    have hm : c ∈ l := by
      have := List.mem_reverse.1 hc
      exact List.mem_reverse.1 ((List.dropWhile_sublist _).subset this)
    show digCut.contains c = true
    rw [cut_dig]
    exact h c hm
theorem chain3 {w w1 w2 w3 : World} (h1 : Below w.heap.size w w1) (h2 : Below w1.heap.size w1 w2) (h3 : Below w2.heap.size w2 w3) : Below w.heap.size w w3 :=
  (h1.trans (h2.mono h1.size)).trans (h3.mono (Nat.le_trans h1.size h2.size))
theorem chain3' {w w1 w2 w3 : World} (h1 : Below w.drew.heap.size w.drew w1) (h2 : Below w1.heap.size w1 w2) (h3 : Below w2.heap.size w2 w3) : Below w.heap.size w w3 :=
  chain3 ((Below.refl _ w).drew.trans h1) h2 h3
theorem NatV.form {w : World} {v : Value} {N : Nat} (h : NatV w v N) : ∃ A n c, v = .agg #[.slice A n c] := by
  obtain ⟨A, n, c, _, e, _⟩ := h.is
  exact ⟨A, n, c, e⟩

theorem natV_set {w : World} {g N : Nat} {v u u0 : Value} (h : NatV w v N) (hs : w.cell? ⟨g, 0, none⟩ = some u0) (hu : ∀ i, u0 ≠ .int .u32 i) : NatV (w.setCell ⟨g, 0, none⟩ u) v N := by
  obtain ⟨A, n, c, xs, e, hc, hl, ht, hv⟩ := h.is
  refine ⟨A, n, c, xs, e, hc, ?_, ht, hv⟩
  rw [sizeSet]
  refine ⟨hl.1, hl.2.1, hl.2.2.1, hl.2.2.2.1, fun h0 => ?_⟩
  obtain ⟨ad, e3, hb, hcl⟩ := hl.2.2.2.2 h0
  refine ⟨ad, e3, hb, fun j x hx => ?_⟩
  have h1 := hcl j x hx
  refine (World.cell?_setCell_other _ _ _ _ (fun e4 => ?_)).trans h1
  rw [← e4, hs] at h1
  injection h1 with h1
  rw [List.getElem?_map] at hx
  cases hq : xs[j]? with
  | none => rw [hq] at hx; cases hx
  | some q =>
    rw [hq] at hx
    simp at hx
    exact hu _ (h1.trans hx.symm)
/-- A box that holds the number N. -/
structure BoxN (w : World) (g N : Nat) : Prop where
  is : ∃ A n c, Blk w g 25 #[.slice A n c] ∧ NatV w (.agg #[.slice A n c]) N
theorem BoxN.below {w w' : World} {g N : Nat} (h : BoxN w g N) (hb : Below w.heap.size w w') : BoxN w' g N := by
  obtain ⟨A, n, c, h1, h2⟩ := h.is
  exact ⟨A, n, c, h1.below hb h1.lt, h2.below hb⟩
theorem BoxN.put {w : World} {g N M : Nat} {A : Option Addr} {n c : Nat} (h : BoxN w g N) (hv : NatV w (.agg #[.slice A n c]) M) : BoxN (w.setCell ⟨g, 0, none⟩ (.slice A n c)) g M := by
  obtain ⟨A0, n0, c0, h1, h2⟩ := h.is
  exact ⟨A, n, c, h1.set_ 0 _, natV_set hv (h1.cell 0) (fun i e => by cases e)⟩
theorem BoxN.other {w : World} {g g' N M : Nat} {u : Value} (h : BoxN w g N) (h' : BoxN w g' M) (hne : g ≠ g') : BoxN (w.setCell ⟨g', 0, none⟩ u) g N := by
  obtain ⟨A0, n0, c0, h1, h2⟩ := h.is
  obtain ⟨A1, n1, c1, h3, h4⟩ := h'.is
  exact ⟨A0, n0, c0, h1.far hne _, natV_set h2 (h3.cell 0) (fun i e => by cases e)⟩
/-- Where Parse stands behind k digits. -/
structure ParI (w : World) (g4 g5 : Nat) (s : ByteArray) (k : Nat) (wr : World) : Prop where
  bel : Below w.heap.size w wr
  out : ∃ u, Blk wr w.heap.size 25 #[u] ∧ ∀ i, u ≠ .int .u32 i
  acc : BoxN wr g4 (decV (s.data.toList.take k))
  ten : BoxN wr g5 10

theorem ParI.step {w wr wa : World} {g4 g5 k : Nat} {s : ByteArray} {A : Option Addr} {n c : Nat} (h : ParI w g4 g5 s k wr) (hb : Below wr.heap.size wr wa) (hv : NatV wa (.agg #[.slice A n c]) (decV (s.data.toList.take (k + 1)))) (hg : w.heap.size < g4) (hg5 : g4 < g5) :
    ParI w g4 g5 s (k + 1) (wa.setCell ⟨g4, 0, none⟩ (.slice A n c)) := by
  obtain ⟨u, hu, hun⟩ := h.out
  obtain ⟨_, _, _, hk4, _⟩ := h.acc.is
  exact ⟨(h.bel.trans (hb.mono h.bel.size)).setCell (p := ⟨g4, 0, none⟩) (Nat.le_of_lt hg) _, ⟨u, (hu.below hb hu.lt).far (Nat.ne_of_lt hg) _, hun⟩, (h.acc.below hb).put hv, (h.ten.below hb).other (h.acc.below hb) (Nat.ne_of_gt hg5)⟩
theorem of_ten (w : World) : Calls Tryd.prog 6 #[.int .i64 10] w (OfPost w 10) := of_any 10 w (by omega)
theorem of_dig (w : World) (x : Nat) (h : 48 ≤ x ∧ x ≤ 57) : Calls Tryd.prog 6 #[.int .i64 ((x : Int) - 48)] w (OfPost w (x - 48)) := by
  have := of_any ((x : Int) - 48) w (by omega)
  rw [show (max 0 ((x : Int) - 48)).toNat = x - 48 by omega] at this
  exact this

theorem natAddV_any (v1 v2 : Value) (N M : Nat) (w : World) (h1 : NatV w v1 N) (h2 : NatV w v2 M) (hN : N < 4294967296 ^ 1000) (hM : M < 4294967296 ^ 1000) :
    Calls Tryd.prog 23 #[v1, v2] w (OfPost w (N + M)) := by
  obtain ⟨A, n, c, xs, rfl, _, hl, _, hv, hn⟩ := h1.len hN
  obtain ⟨A2, n2, c2, ys, rfl, _, hl2, _, hv2, hn2⟩ := h2.len hM
  rw [← hv, ← hv2]
  exact natAdd_any A A2 n c n2 c2 xs ys w hl hl2 hn hn2

set_option maxRecDepth 100000 in
set_option maxHeartbeats 4000000 in
theorem parse_any (s : ByteArray) (w : World) (hs : s.size ≤ 300) :
    Calls Tryd.prog 11 #[.string s] w (ParsePost w s) := by
  have HB0 := hide ((Below.refl w.heap.size w).alloc (Nat.le_refl _) (.cells #[.slice none 0 0] 25))
  have hcon := Any.strings_Trim_laid Tryd.lays160 (by kernel_rfl) s ⟨#[48, 49, 50, 51, 52, 53, 54, 55, 56, 57]⟩ (w.alloc (.cells #[.slice none 0 0] 25)) (by omega) (by decide) (ascii_of_all (by decide))
  change Calls Tryd.prog 35 _ _ (fun e w' => e = .returned (.string ⟨(Lib.trimS s.data.toList digCut).toArray⟩) ∧ Below (w.alloc (.cells #[.slice none 0 0] 25)).heap.size (w.alloc (.cells #[.slice none 0 0] 25)) w') at hcon
  obtain ⟨r, hr⟩ : ∃ r : ByteArray, r = ⟨(Lib.trimS s.data.toList digCut).toArray⟩ := ⟨_, rfl⟩
  rw [← hr] at hcon
  have HR := Lib.hid (show r.toList = [] ↔ ∀ c ∈ s.data.toList, isDig c = true by rw [toList_data, hr]; simpa using trim_dig s.data.toList)
  have HCN := hide hcon
  have HBL := hide (Blk.new w 25 #[.slice none 0 0])
  clear hr hcon
  by_cases h0 : s.toList = []
  · have HRR := Lib.hid (numE_no (no_empty (empty_of h0)))
    have hie : s.toList.isEmpty = true := by rw [h0]; rfl
    go_enter Tryd.func11, Tryd.ntmps11
    go_wp2
    exact bodyPost_ret (v := .tuple #[.agg #[.slice none 0 0], .iface 32 (.int .i64 3)]) (by simp [results, Tryd.results11, go_sem]) rfl (parseNo HRR.out (by omega) HB0.out)
  have hp : 0 < s.size := by
    rcases Nat.eq_zero_or_pos s.size with h | h
    · exfalso
      apply h0
      rw [toList_data]
      exact List.eq_nil_of_length_eq_zero (by rw [size_len]; exact h)
    · exact h
  have hp1 : 1 ≤ s.size := hp
  have hie : s.toList.isEmpty = false := by simpa using h0
  have HK1 := hide (fun (w1 : World) (hb : Below (w.alloc (.cells #[.slice none 0 0] 25)).heap.size (w.alloc (.cells #[.slice none 0 0] 25)) w1) => show Blk w1 w.heap.size 25 #[.slice none 0 0] ∧ Below w.heap.size w w1 from ⟨HBL.out.below hb HBL.out.lt, HB0.out.trans (hb.mono HB0.out.size)⟩)
  by_cases hdg : ∀ c ∈ s.data.toList, isDig c = true
  · have HDG := hide hdg
    have hre : r.toList.isEmpty = true := by rw [HR.out.2 hdg]; rfl
    by_cases hz : (s[0]'hp).toNat = 48 ∧ s.size ≠ 1
    · have HRR := Lib.hid (numE_no (no_lead hp hz.1 hz.2))
      have hz3 : (((s[0]'hp).toNat : Int) == 48) = true := beq_iff_eq.2 (by omega)
      have hz4 : (s.toList == [48]) = false := beq_eq_false_iff_ne.2 (fun e => hz.2 (by rw [toList_data] at e; have := congrArg List.length e; exact this))
      clear hz hdg h0
      go_enter Tryd.func11, Tryd.ntmps11
      go_wp2_with fail
      refine (HCN.out).mono ?_
      rintro e w1 ⟨rfl, hb1⟩
      obtain ⟨hk1, hbw⟩ := HK1.out w1 hb1
      have HBW := hide (hbw.setCell (p := ⟨w.heap.size, 0, none⟩) (Nat.le_refl _) (.slice none 0 0))
      have c0 := hk1.cell 0
      have f0 := hk1.frozen 0
      have d0 := (hk1.set_ 0 (.slice none 0 0)).cell 0
      clear hk1 hbw hb1
      go_wp2
      exact bodyPost_ret (v := .tuple #[.agg #[.slice none 0 0], .iface 32 (.int .i64 3)]) (by simp [results, Tryd.results11, go_sem, d0]) rfl (parseNo HRR.out (by omega) HBW.out)
    · have HOK := Lib.hid (yes_num hp HDG.out (by omega))
      have hcase : ((((s[0]'hp).toNat : Int) == 48) = false) ∨ ((((s[0]'hp).toNat : Int) == 48) = true ∧ (s.toList == [48]) = true) := by
        by_cases h48 : (s[0]'hp).toNat = 48
        · have h1 : s.size = 1 := by omega
          refine .inr ⟨beq_iff_eq.2 (by omega), beq_iff_eq.2 ?_⟩
          rw [toList_data]
          have hl : s.data.toList.length = 1 := h1
          have hb := byte_at s 0 hp
          generalize s[0]'hp = c at hb h48
          have hc : c = 48 := UInt8.toNat_inj.1 h48
          subst hc
          match s.data.toList, hl, hb with
          | [a], _, hb => simp at hb; rw [hb]
        · exact .inl (beq_eq_false_iff_ne.2 (by omega))
      clear hz hdg h0
      by_cases hlong : 100 < s.size
      · have HRR := Lib.hid (numE_long HOK.out hlong)
        have hli : (100 : Int) < (s.size : Int) := by omega
        rcases hcase with hz3 | ⟨hz3, hz4⟩
        all_goals
          go_enter Tryd.func11, Tryd.ntmps11
          go_wp2_with fail
          refine (HCN.out).mono ?_
          rintro e w1 ⟨rfl, hb1⟩
          obtain ⟨hk1, hbw⟩ := HK1.out w1 hb1
          have HBW := hide (hbw.setCell (p := ⟨w.heap.size, 0, none⟩) (Nat.le_refl _) (.slice none 0 0))
          have c0 := hk1.cell 0
          have f0 := hk1.frozen 0
          have d0 := (hk1.set_ 0 (.slice none 0 0)).cell 0
          clear hk1 hbw hb1
          go_wp2
          exact bodyPost_ret (v := .tuple #[.agg #[.slice none 0 0], .iface 32 (.int .i64 4)]) (by simp [results, Tryd.results11, go_sem, d0]) rfl (parseNo HRR.out (by omega) HBW.out)
      · have HRR := Lib.hid (numE_ok HOK.out hlong)
        have hli : decide ((100 : Int) < (s.size : Int)) = false := decide_eq_false (by omega)
        rcases hcase with hz3 | ⟨hz3, hz4⟩
        all_goals
          go_enter Tryd.func11, Tryd.ntmps11
          go_wp2_with fail
          refine (HCN.out).mono ?_
          rintro e w1 ⟨rfl, hb1⟩
          obtain ⟨hk1, hbw⟩ := HK1.out w1 hb1
          have HT := hide of_ten
          have HB2 := hide (hbw.alloc hbw.size (.cells #[.slice none 0 0] 25))
          have HK2 := hide (hk1.alloc (.cells #[.slice none 0 0] 25))
          have HG4 := hide (Blk.new w1 25 #[.slice none 0 0])
          clear hk1 hbw
          go_wp2_with fail
          refine (HT.out _).mono ?_
          rintro e w3 ⟨v3, rfl, hv3, hb3⟩
          obtain ⟨A3, n3, c3, xs3, rfl, hx3⟩ := hv3.is
          have HB3 := hide (HB2.out.trans (hb3.mono HB2.out.size))
          have HK3 := hide (HK2.out.below hb3 HK2.out.lt)
          have HG3 := hide (HG4.out.below hb3 HG4.out.lt)
          have HG5 := hide (Blk.new w3 25 #[.slice A3 n3 c3])
          have HST := hide (show ParI w w1.heap.size w3.heap.size s 0 (w3.alloc (.cells #[.slice A3 n3 c3] 25)) from ⟨HB3.out.alloc HB3.out.size _, ⟨_, HK3.out.alloc _, fun i e => by cases e⟩, ⟨none, 0, 0, HG3.out.alloc _, natV_nil _⟩, ⟨A3, n3, c3, HG5.out, hv3.below ((Below.refl _ _).alloc (Nat.le_refl _) _)⟩⟩)
          have hg45 : w1.heap.size < w3.heap.size := HG3.out.lt
          have hg4 : w.heap.size < w1.heap.size := by have := HK1.out w1 hb1; exact this.1.lt
          generalize w1.heap.size = g4 at hg45 hg4 HST ⊢
          generalize hg5e : w3.heap.size = g5 at hg45 HST ⊢
          clear hb3 hx3 hv3 hb1
          go_wp2
          clear hg5e
          generalize (w3.alloc (.cells #[.slice A3 n3 c3] 25)) = w4 at HST ⊢
          go_loopw [35] (fun i wr => ∃ k : Nat, k ≤ s.size ∧ i = .int .i64 k ∧ Hid (ParI w g4 g5 s k wr)) (fun i _ => s.size - (RowKit.intOf i).toNat)
          case atStart => exact ⟨0, Nat.zero_le _, rfl, HST⟩
          case round =>
            clear HST
            obtain ⟨k, hk, rfl, hR⟩ := hrel
            by_cases hlt : k < s.size
            · have hx := byte_dig HDG.out k hlt
              obtain ⟨hxa, hxb⟩ := hx
              have HTK := Lib.hid (decV_take (byte_at s k hlt))
              have HBD := Lib.hid (decV_bound (take_dig HDG.out k) (by rw [List.length_take, size_len]; omega))
              have HBD2 := Lib.hid (decV_bound (take_dig HDG.out (k + 1)) (by rw [List.length_take, size_len]; omega))
              rw [HTK.out] at HBD2
              obtain ⟨A4, n4, d4, hk4, hv4⟩ := hR.out.acc.is
              obtain ⟨A5, n5, d5, hk5, hv5⟩ := hR.out.ten.is
              generalize decV (s.data.toList.take k) = V at hv4 HTK HBD HBD2
              have q4 := hk4.cell 0
              have q5 := hk5.cell 0
              have f4 := hk4.frozen 0
              have l4 := hk4.lt
              have l5 := hk5.lt
              have HOF := hide (fun w' => of_dig w' _ ⟨hxa, hxb⟩)
              have HMU := hide (fun (w' : World) (hb : Below wr.heap.size wr w') => natMul_any _ _ V 10 w' (hv4.below hb) (hv5.below hb) HBD.out (small_bound (by omega)))
              have HADD := hide (fun (w' : World) (vm vo : Value) (h1 : NatV w' vm (V * 10)) (h2 : NatV w' vo ((s[k]'hlt).toNat - 48)) => natAddV_any vm vo _ _ w' h1 h2 (Nat.lt_of_le_of_lt (Nat.le_add_right _ _) HBD2.out) (small_bound (by omega)))
              have z1 : IntKind.u8.wrap (((s[k]'hlt).toNat : Int) - 48) = ((s[k]'hlt).toNat : Int) - 48 := by rw [IntKind.wrap_u8]; omega
              have z2 : IntKind.i64.wrap (((s[k]'hlt).toNat : Int) - 48) = ((s[k]'hlt).toNat : Int) - 48 := IntWalk.i64_in _ (by omega)
              have hkI : (k : Int) < (s.size : Int) := by omega
              have hk0 : (0 : Int) ≤ (k : Int) := by omega
              clear HBD HBD2 HB0 HCN HBL HB2 HK2 HG4 HB3 HK3 HG3 HG5 HT
              go_wp2
              go_region_with (first
                  | (go_at_call 25; refine (HMU.out _ (by first | exact Below.refl _ _ | exact (Below.refl _ _).drew | exact hbo | exact (Below.refl _ _).drew.trans hbo)).mono ?_; rintro e wm ⟨vm, rfl, hvm, hbm⟩)
                  | (go_at_call 6; refine (HOF.out _).mono ?_; rintro e wo ⟨vo, rfl, hvo, hbo⟩)
                  | (go_at_call 23; refine (HADD.out _ _ _ (by first | exact hvm | exact hvm.below hbo) (by first | exact hvo | exact hvo.below hbm)).mono ?_; rintro e wa ⟨va, rfl, hva, hba⟩; obtain ⟨A6, n6, d6, e6⟩ := hva.form; subst e6; have hbA : Below wr.heap.size wr wa := (by first | exact chain3' hbm hbo hba | exact chain3' hbo hbm hba | exact chain3 hbm hbo hba | exact chain3 hbo hbm hba); have f6 := (hbA.frozen (p := ⟨g4, 0, none⟩) l4).trans f4; have c6 := (hbA.cell (p := ⟨g4, 0, none⟩) l4).trans q4))
              all_goals
                rw [← HTK.out] at hva
                have HRL := hide (hR.out.step hbA hva hg4 hg45)
                clear hR hva hba hvm hvo hbm hbo hbA f6 c6 q4 q5 f4 hk4 hk5 hv4 hv5 HMU HOF HADD
                go_wp2
                go_roundw
                case rel => exact ⟨k + 1, by omega, by go_num, HRL⟩
                case measure => simp [RowKit.intOf]; omega
            · obtain rfl : k = s.size := by omega
              have HBX := hide hR.out.bel
              obtain ⟨u, hku, hun⟩ := hR.out.out
              obtain ⟨A4, n4, d4, hk4, hv4⟩ := hR.out.acc.is
              rw [List.take_of_length_le (by rw [size_len]; omega)] at hv4
              have q4 := hk4.cell 0
              have f2 := hku.frozen 0
              have c2 := hku.cell 0
              have HVV := hide (natV_set (u := .slice A4 n4 d4) hv4 (hku.cell 0) hun)
              have HBY := hide (HBX.out.setCell (p := ⟨w.heap.size, 0, none⟩) (Nat.le_refl _) (.slice A4 n4 d4))
              have d0 := (hku.set_ 0 (.slice A4 n4 d4)).cell 0
              clear hR hku hun hk4 hv4
              go_wp2
              exact bodyPost_ret (v := .tuple #[.agg #[.slice A4 n4 d4], .nilIface]) (by simp [results, Tryd.results11, go_sem, d0]) rfl (parseYes HRR.out HVV.out HBY.out)
  · have hre : r.toList.isEmpty = false := by
      cases h : r.toList.isEmpty
      · rfl
      · exact absurd (HR.out.1 (by simpa using h)) hdg
    have HRR := Lib.hid (numE_no (s := s) (fun n => hdg n.dig))
    clear hdg h0
    go_enter Tryd.func11, Tryd.ntmps11
    go_wp2_with fail
    refine (HCN.out).mono ?_
    rintro e w1 ⟨rfl, hb1⟩
    obtain ⟨hk1, hbw⟩ := HK1.out w1 hb1
    have HBW := hide (hbw.setCell (p := ⟨w.heap.size, 0, none⟩) (Nat.le_refl _) (.slice none 0 0))
    have c0 := hk1.cell 0
    have f0 := hk1.frozen 0
    have d0 := (hk1.set_ 0 (.slice none 0 0)).cell 0
    clear hk1 hbw hb1
    go_wp2
    exact bodyPost_ret (v := .tuple #[.agg #[.slice none 0 0], .iface 32 (.int .i64 3)]) (by simp [results, Tryd.results11, go_sem, d0]) rfl (parseNo HRR.out (by omega) HBW.out)
end Go.Proofs.YtpghgfenafhhbaaDoor
