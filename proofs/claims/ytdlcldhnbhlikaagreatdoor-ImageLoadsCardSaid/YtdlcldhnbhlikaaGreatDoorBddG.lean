/-
  A space's Holds. A space in which nothing is yet, of any room: Ite, Not, And, Or, All, Set, Some, Each, Holds, Size there. .. Not, And, Or, All, Set, Some, Each, Holds, Size, Lit of an empty space. .. Some, Each, All, Holds, Size, Lit of an empty space.
-/
import Derived.Test.YtdlcldhnbhlikaaGreatDoorBddFunP
import Derived.Test.YtdlcldhnbhlikaaGreatDoorBddTabM
import Derived.Laws.Bits64b
import Derived.Test.YtdlcldhnbhlikaaGreatDoorFourOwn
namespace Go.Proofs.YtdlcldhnbhlikaaGreatDoor
open Go.RowKit Go.Maps

theorem shr_bit (v x : Nat) (hv : v < 18446744073709551616) : (bits BinOp.and IntKind.u64 ((v : Int) / 2 ^ x) 1 == 1) = v.testBit x := by
  have e : ((v : Int) / 2 ^ x) = ((v >>> x : Nat) : Int) := by rw [Nat.shiftRight_eq_div_pow]; norm_cast
  have hl : v >>> x < 18446744073709551616 := Nat.lt_of_le_of_lt (Nat.shiftRight_le v x) hv
  rw [e, show (1 : Int) = ((1 : Nat) : Int) from rfl, bits_and_u64_nat _ _ hl (by omega), Nat.testBit, Nat.and_comm]
  have h1 : 1 &&& v >>> x = 0 ∨ 1 &&& v >>> x = 1 := by rw [Nat.one_and_eq_mod_two]; omega
  rcases h1 with h1 | h1 <;> rw [h1] <;> rfl
def HoldsP (w : World) (A : Ar) (x : Int) (u : Int → Bool) (e : Ending) (w' : World) : Prop := e = .returned (.tuple #[.bool (den A x u), .nilIface]) ∧ Below w.heap.size w w'
section
variable (S B gn gu gt gc m : Nat) (vars : Int) (A : Ar) (w : World)
/-- Where the way down stands. -/
structure HolI (A : Ar) (w : World) (x : Int) (u : Int → Bool) (y : Int) (wr : World) : Prop where
  bel : Below w.heap.size w wr
  has : hasA A y = true
  den : den A y u = den A x u
end
end Go.Proofs.YtdlcldhnbhlikaaGreatDoor
namespace Go.Proofs.YtdlcldhnbhlikaaGreatDoor
open Go.RowKit Go.Maps

/-- The empty space of R nodes' room in block S. -/
structure SpE (w : World) (S B gn gu gt gc : Nat) (vars : Int) (R : Nat) : Prop where
  kS : Blk w S 82 #[.pointer (some ⟨B, 0, none⟩), .int .i64 vars, .map (some gc)]
  ar : ArM w B gn gu gt (emptyA R)
theorem SpE.below {w w' : World} {S B gn gu gt gc : Nat} {vars : Int} {R : Nat} (h : SpE w S B gn gu gt gc vars R) (hb : Below w.heap.size w w') : SpE w' S B gn gu gt gc vars R :=
  ⟨h.kS.below hb h.kS.lt, h.ar.below hb (fun _ hk => h.ar.lt hk)⟩
/-- Is it one of the two ends? -/
def endB (x : Int) : Bool := x == 0 || x == 1
theorem hasE (R : Nat) (x : Int) : hasA (emptyA R) x = endB x := by
  unfold hasA endB
  rw [got_empty]
  simp
theorem endB_true {x : Int} (h : endB x = true) : x = 0 ∨ x = 1 := by unfold endB at h; simpa using h
theorem end_zero : endB 0 = true := rfl
theorem end_one : endB 1 = true := rfl
/-- An answer with an error, or without. -/
def AnsP (w : World) (x : Int) (c : Int) (e : Ending) (w' : World) : Prop := e = .returned (.tuple #[.int .i64 x, errV c]) ∧ Below w.heap.size w w'
/-- .. of which only the error matters. -/
def ErrP (w : World) (c : Int) (e : Ending) (w' : World) : Prop := ∃ v, e = .returned (.tuple #[v, errV c]) ∧ Below w.heap.size w w'
theorem AnsP.err {w w' : World} {x c : Int} {e : Ending} (h : AnsP w x c e w') : ErrP w c e w' := ⟨_, h.1, h.2⟩
def missE (x : Int) : Int := if endB x then 0 else 7
section
variable (S B gn gu gt gc : Nat) (vars : Int) (R : Nat) (w : World)
theorem hasE_call (x : Int) (h : SpE w S B gn gu gt gc vars R) (hx : I64 x) (b : Bool) (hb : endB x = b) : Calls Tryz.prog 33 #[.pointer (some ⟨B, 0, none⟩), .int .i64 x] w (fun e w' => e = .returned (.bool b) ∧ w = w') :=
  (arHas_any B gn gu gt (emptyA R) x w h.ar hx).mono (fun e w' ⟨e1, e2⟩ => ⟨by rw [e1, hasE, hb], e2⟩)
set_option maxHeartbeats 1000000 in
theorem eite_any (a b c : Int) (ha : a = 0 ∨ a = 1) : Calls Tryz.prog 118 #[.pointer (some ⟨S, 0, none⟩), .int .i64 a, .int .i64 b, .int .i64 c] w (AnsP w (if a = 1 then b else c) 0) := by
  rcases ha with rfl | rfl
  · rw [if_neg (by decide)]
    by_cases hbc : b = c
    · subst hbc
      go_enter Tryz.func118, Tryz.ntmps118
      go_wp2
      go_ret2
      exact ⟨rfl, Below.refl _ _⟩
    · have hbcb : (b == c) = false := beq_eq_false_iff_ne.2 hbc
      go_enter Tryz.func118, Tryz.ntmps118
      go_wp2
      go_ret2
      exact ⟨rfl, Below.refl _ _⟩
  · rw [if_pos rfl]
    go_enter Tryz.func118, Tryz.ntmps118
    go_wp2
    go_ret2
    exact ⟨rfl, Below.refl _ _⟩
/-- What Ite answers. -/
def iteX (a b c : Int) : Int := if endB a && endB b && endB c then (if a = 1 then b else c) else 0
def iteC (a b c : Int) : Int := if endB a && endB b && endB c then 0 else 7
theorem eIte_ends {X C : Int} (a b c : Int) (h : SpE w S B gn gu gt gc vars R) (ia : I64 a) (ib : I64 b) (ic : I64 c) (pa : endB a = true) (pb : endB b = true) (pc : endB c = true) (HX : Hid ((if a = 1 then b else c) = X)) (HC : Hid (0 = C)) :
    Calls Tryz.prog 78 #[.pointer (some ⟨S, 0, none⟩), .int .i64 a, .int .i64 b, .int .i64 c] w (AnsP w X C) := by
  have s0 := h.kS.cell 0
  have HA := hide (hasE_call S B gn gu gt gc vars R w a h ia _ pa)
  have HB := hide (hasE_call S B gn gu gt gc vars R w b h ib _ pb)
  have HC3 := hide (hasE_call S B gn gu gt gc vars R w c h ic _ pc)
  have HT := eite_any S w a b c (endB_true pa)
  rw [HX.out] at HT
  have HT := hide HT
  clear h pa pb pc HX
  go_enter Tryz.func78, Tryz.ntmps78
  go_wp2_with fail
  refine (HA.out).mono ?_
  rintro e w1 ⟨rfl, rfl⟩
  go_wp2_with fail
  refine (HB.out).mono ?_
  rintro e w1 ⟨rfl, rfl⟩
  go_wp2_with fail
  refine (HC3.out).mono ?_
  rintro e w1 ⟨rfl, rfl⟩
  go_wp2_with fail
  refine (HT.out).mono ?_
  rintro e w1 ⟨rfl, hb1⟩
  go_wp2
  go_ret2
  exact ⟨by rw [← HC.out]; rfl, hb1⟩
set_option maxHeartbeats 2000000 in
theorem eIte_any (a b c : Int) (h : SpE w S B gn gu gt gc vars R) (ia : I64 a) (ib : I64 b) (ic : I64 c) :
    Calls Tryz.prog 78 #[.pointer (some ⟨S, 0, none⟩), .int .i64 a, .int .i64 b, .int .i64 c] w (AnsP w (iteX a b c) (iteC a b c)) := by
  have s0 := h.kS.cell 0
  obtain ⟨X, HX⟩ : ∃ X, Hid (iteX a b c = X) := ⟨_, Lib.hid rfl⟩
  obtain ⟨C, HC0⟩ : ∃ C, Hid (iteC a b c = C) := ⟨_, Lib.hid rfl⟩
  rw [HX.out, HC0.out]
  cases pa : endB a with
  | false =>
    have HA := hide (hasE_call S B gn gu gt gc vars R w a h ia _ pa)
    obtain rfl : X = 0 := by rw [← HX.out]; unfold iteX; rw [pa]; rfl
    obtain rfl : C = 7 := by rw [← HC0.out]; unfold iteC; rw [pa]; rfl
    clear h HX HC0
    go_enter Tryz.func78, Tryz.ntmps78
    go_wp2_with fail
    refine (HA.out).mono ?_
    rintro e w1 ⟨rfl, rfl⟩
    go_wp2
    go_ret2
    exact ⟨by rw [errV_ne (by decide)]; rfl, Below.refl _ _⟩
  | true =>
    have HA := hide (hasE_call S B gn gu gt gc vars R w a h ia _ pa)
    cases pb : endB b with
    | false =>
      have HB := hide (hasE_call S B gn gu gt gc vars R w b h ib _ pb)
      obtain rfl : X = 0 := by rw [← HX.out]; unfold iteX; rw [pa, pb]; rfl
      obtain rfl : C = 7 := by rw [← HC0.out]; unfold iteC; rw [pa, pb]; rfl
      clear h HX HC0
      go_enter Tryz.func78, Tryz.ntmps78
      go_wp2_with fail
      refine (HA.out).mono ?_
      rintro e w1 ⟨rfl, rfl⟩
      go_wp2_with fail
      refine (HB.out).mono ?_
      rintro e w1 ⟨rfl, rfl⟩
      go_wp2
      go_ret2
      exact ⟨by rw [errV_ne (by decide)]; rfl, Below.refl _ _⟩
    | true =>
      have HB := hide (hasE_call S B gn gu gt gc vars R w b h ib _ pb)
      cases pc : endB c with
      | false =>
        have HC := hide (hasE_call S B gn gu gt gc vars R w c h ic _ pc)
        obtain rfl : X = 0 := by rw [← HX.out]; unfold iteX; rw [pa, pb, pc]; rfl
        obtain rfl : C = 7 := by rw [← HC0.out]; unfold iteC; rw [pa, pb, pc]; rfl
        clear h HX HC0
        go_enter Tryz.func78, Tryz.ntmps78
        go_wp2_with fail
        refine (HA.out).mono ?_
        rintro e w1 ⟨rfl, rfl⟩
        go_wp2_with fail
        refine (HB.out).mono ?_
        rintro e w1 ⟨rfl, rfl⟩
        go_wp2_with fail
        refine (HC.out).mono ?_
        rintro e w1 ⟨rfl, rfl⟩
        go_wp2
        go_ret2
        exact ⟨by rw [errV_ne (by decide)]; rfl, Below.refl _ _⟩
      | true => exact eIte_ends S B gn gu gt gc vars R w a b c h ia ib ic pa pb pc (by rw [← HX.out]; unfold iteX; rw [pa, pb, pc]; exact Lib.hid rfl) (by rw [← HC0.out]; unfold iteC; rw [pa, pb, pc]; exact Lib.hid rfl)
end
end Go.Proofs.YtdlcldhnbhlikaaGreatDoor
namespace Go.Proofs.YtdlcldhnbhlikaaGreatDoor
open Go.RowKit Go.Maps

theorem i64_zero : I64 0 := by unfold I64; omega
theorem i64_one : I64 1 := by unfold I64; omega
section
variable (S B gn gu gt gc : Nat) (vars : Int) (R : Nat) (w : World)
theorem eNot_any (a : Int) (h : SpE w S B gn gu gt gc vars R) (ia : I64 a) :
    Calls Tryz.prog 74 #[.pointer (some ⟨S, 0, none⟩), .int .i64 a] w (AnsP w (iteX a 0 1) (iteC a 0 1)) := by
  have HI := hide (eIte_any S B gn gu gt gc vars R w a 0 1 h ia i64_zero i64_one)
  generalize iteX a 0 1 = X at HI ⊢
  generalize iteC a 0 1 = C at HI ⊢
  clear h
  go_enter Tryz.func74, Tryz.ntmps74
  go_wp2_with fail
  refine (HI.out).mono ?_
  rintro e w2 ⟨rfl, hb⟩
  go_wp2
  go_ret2
  exact ⟨rfl, hb⟩
theorem eAnd_any (a b : Int) (h : SpE w S B gn gu gt gc vars R) (ia : I64 a) (ib : I64 b) :
    Calls Tryz.prog 75 #[.pointer (some ⟨S, 0, none⟩), .int .i64 a, .int .i64 b] w (AnsP w (iteX a b 0) (iteC a b 0)) := by
  have HI := hide (eIte_any S B gn gu gt gc vars R w a b 0 h ia ib i64_zero)
  generalize iteX a b 0 = X at HI ⊢
  generalize iteC a b 0 = C at HI ⊢
  clear h
  go_enter Tryz.func75, Tryz.ntmps75
  go_wp2_with fail
  refine (HI.out).mono ?_
  rintro e w2 ⟨rfl, hb⟩
  go_wp2
  go_ret2
  exact ⟨rfl, hb⟩
theorem eOr_any (a b : Int) (h : SpE w S B gn gu gt gc vars R) (ia : I64 a) (ib : I64 b) :
    Calls Tryz.prog 76 #[.pointer (some ⟨S, 0, none⟩), .int .i64 a, .int .i64 b] w (AnsP w (iteX a 1 b) (iteC a 1 b)) := by
  have HI := hide (eIte_any S B gn gu gt gc vars R w a 1 b h ia i64_one ib)
  generalize iteX a 1 b = X at HI ⊢
  generalize iteC a 1 b = C at HI ⊢
  clear h
  go_enter Tryz.func76, Tryz.ntmps76
  go_wp2_with fail
  refine (HI.out).mono ?_
  rintro e w2 ⟨rfl, hb⟩
  go_wp2
  go_ret2
  exact ⟨rfl, hb⟩
/-- The error of a step at a variable. -/
def varC (vars h v : Int) : Int := if v < 0 ∨ vars ≤ v then 2 else missE h
set_option maxHeartbeats 2000000 in
theorem eset_any (gd : Nat) (x v : Int) (is : Bool) (h : SpE w S B gn gu gt gc vars R) (hx : I64 x) :
    Calls Tryz.prog 119 #[.pointer (some ⟨S, 0, none⟩), .int .i64 x, .int .i64 v, .bool is, .map (some gd)] w (AnsP w x 0) := by
  have s0 := h.kS.cell 0
  have HG := hide (arGet_none B gn gu gt (emptyA R) x w h.ar hx (got_empty R x))
  clear h
  go_enter Tryz.func119, Tryz.ntmps119
  go_wp2_with fail
  refine (HG.out).mono ?_
  rintro e w2 ⟨rfl, hb⟩
  go_wp2
  go_ret2
  exact ⟨rfl, hb.alloc hb.size _⟩
def setX (vars h v : Int) : Int := if varC vars h v = 0 then h else 0
set_option maxHeartbeats 2000000 in
theorem eSet_any (x v : Int) (is : Bool) (h : SpE w S B gn gu gt gc vars R) (hx : I64 x) :
    Calls Tryz.prog 79 #[.pointer (some ⟨S, 0, none⟩), .int .i64 x, .int .i64 v, .bool is] w (AnsP w (setX vars x v) (varC vars x v)) := by
  have s0 := h.kS.cell 0
  have s1 := h.kS.cell 1
  have hmm := @run_makeMap Tryz.prog
  obtain ⟨X, HX⟩ : ∃ X, Hid (setX vars x v = X) := ⟨_, Lib.hid rfl⟩
  obtain ⟨C, HC0⟩ : ∃ C, Hid (varC vars x v = C) := ⟨_, Lib.hid rfl⟩
  rw [HX.out, HC0.out]
  by_cases h1 : v < 0
  · have hc : varC vars x v = 2 := by unfold varC; rw [if_pos (.inl h1)]
    obtain rfl : C = 2 := HC0.out.symm.trans hc
    obtain rfl : X = 0 := by rw [← HX.out]; unfold setX; rw [hc]; rfl
    clear h HX HC0 hc
    go_enter Tryz.func79, Tryz.ntmps79
    go_wp2
    go_ret2
    exact ⟨by rw [errV_ne (by decide)]; rfl, Below.refl _ _⟩
  · have h1b : decide (v < 0) = false := decide_eq_false h1
    by_cases h2 : vars ≤ v
    · have hc : varC vars x v = 2 := by unfold varC; rw [if_pos (.inr h2)]
      obtain rfl : C = 2 := HC0.out.symm.trans hc
      obtain rfl : X = 0 := by rw [← HX.out]; unfold setX; rw [hc]; rfl
      clear h HX HC0 hc
      go_enter Tryz.func79, Tryz.ntmps79
      go_wp2
      go_ret2
      exact ⟨by rw [errV_ne (by decide)]; rfl, Below.refl _ _⟩
    · have h2b : decide (vars ≤ v) = false := decide_eq_false h2
      have hc : varC vars x v = missE x := by unfold varC; rw [if_neg (by omega)]
      cases px : endB x with
      | false =>
        have hm : missE x = 7 := by unfold missE; rw [px]; rfl
        obtain rfl : C = 7 := HC0.out.symm.trans (hc.trans hm)
        obtain rfl : X = 0 := by rw [← HX.out]; unfold setX; rw [hc, hm]; rfl
        have HA := hide (hasE_call S B gn gu gt gc vars R w x h hx _ px)
        clear h HX HC0 hc hm
        go_enter Tryz.func79, Tryz.ntmps79
        go_wp2_with fail
        refine (HA.out).mono ?_
        rintro e w1 ⟨rfl, rfl⟩
        go_wp2
        go_ret2
        exact ⟨by rw [errV_ne (by decide)]; rfl, Below.refl _ _⟩
      | true =>
        have hm : missE x = 0 := by unfold missE; rw [px]; rfl
        obtain rfl : C = 0 := HC0.out.symm.trans (hc.trans hm)
        obtain rfl : X = x := by rw [← HX.out]; unfold setX; rw [hc, hm]; rfl
        have HA := hide (hasE_call S B gn gu gt gc vars R w X h hx _ px)
        have hal := (Below.refl w.heap.size w).alloc (Nat.le_refl _) (.map #[] 0)
        have HB := hide hal
        have HS := hide (eset_any S B gn gu gt gc vars R _ w.heap.size X v is (h.below hal) hx)
        clear h HX HC0 hc hm hal
        go_enter Tryz.func79, Tryz.ntmps79
        go_wp2_with fail
        refine (HA.out).mono ?_
        rintro e w1 ⟨rfl, rfl⟩
        go_wp2_with fail
        refine (HS.out).mono ?_
        rintro e w2 ⟨rfl, hb⟩
        go_wp2
        go_ret2
        exact ⟨rfl, HB.out.trans (hb.mono HB.out.size)⟩
end
end Go.Proofs.YtdlcldhnbhlikaaGreatDoor
namespace Go.Proofs.YtdlcldhnbhlikaaGreatDoor
open Go.RowKit Go.Maps

section
variable (S B gn gu gt gc : Nat) (vars : Int) (R : Nat) (w : World)
theorem iteC_ends {a b c : Int} (ha : endB a = true) (hb : endB b = true) (hc : endB c = true) : iteC a b c = 0 := by unfold iteC; rw [ha, hb, hc]; rfl
theorem varC_zero {vars x v : Int} (h : varC vars x v = 0) : endB x = true ∧ setX vars x v = x := by
  have h1 : setX vars x v = x := by unfold setX; rw [if_pos h]
  refine ⟨?_, h1⟩
  unfold varC at h
  split at h
  · cases h
  · unfold missE at h
    cases e : endB x
    · rw [e] at h; cases h
    · rfl
set_option maxRecDepth 100000 in
set_option maxHeartbeats 2000000 in
theorem eBoth_any (f : FuncId) (hfn : f = 76 ∨ f = 75) (x v : Int) (h : SpE w S B gn gu gt gc vars R) (hx : I64 x) :
    Calls Tryz.prog 120 #[.pointer (some ⟨S, 0, none⟩), .int .i64 x, .int .i64 v, .func (.func f) #[.pointer (some ⟨S, 0, none⟩)] #[]] w (ErrP w (varC vars x v)) := by
  have HV := hide (@varC_zero vars x v)
  obtain ⟨C, HC0⟩ : ∃ C, Hid (varC vars x v = C) := ⟨_, Lib.hid rfl⟩
  have H1 := eSet_any S B gn gu gt gc vars R w x v false h hx
  rw [HC0.out] at H1 HV ⊢
  have H := hide h
  have H1 := hide H1
  by_cases h0 : C = 0
  · subst h0
    obtain ⟨hend, hX⟩ := HV.out rfl
    rw [hX] at H1
    have hxe := endB_true hend
    have HIE := Lib.hid (And.intro (iteC_ends hend end_one hend) (iteC_ends hend hend end_zero))
    clear h HV hX
    rcases hfn with rfl | rfl
    all_goals
      go_enter Tryz.func120, Tryz.ntmps120
      go_wp2_with fail
      refine (H1.out).mono ?_
      rintro e w1 ⟨rfl, hb1⟩
      have H2 := eSet_any S B gn gu gt gc vars R w1 x v true (H.out.below hb1) hx
      rw [HC0.out] at H2
      rw [show setX vars x v = x by unfold setX; rw [HC0.out]; rfl] at H2
      have H2 := hide H2
      have HB1 := hide hb1
      rw [errV_zero]
      clear hb1
      go_wp2_with fail
      refine (H2.out).mono ?_
      rintro e w2 ⟨rfl, hb2⟩
      rw [errV_zero]
      have HB2 := hide (HB1.out.trans (hb2.mono HB1.out.size))
      first
        | (have HW := eOr_any S B gn gu gt gc vars R w2 x x (H.out.below HB2.out) hx hx
           rw [HIE.out.1] at HW
           have HW := hide HW
           clear hb2
           go_wp2_with fail
           refine (HW.out).mono ?_)
        | (have HW := eAnd_any S B gn gu gt gc vars R w2 x x (H.out.below HB2.out) hx hx
           rw [HIE.out.2] at HW
           have HW := hide HW
           clear hb2
           go_wp2_with fail
           refine (HW.out).mono ?_)
      rintro e w3 ⟨rfl, hb3⟩
      go_wp2
      go_ret2
      exact ⟨_, rfl, HB2.out.trans (hb3.mono HB2.out.size)⟩
  · have hCE : errV C = .iface 37 (.int .i64 C) := errV_ne h0
    have HCE := Lib.hid hCE
    clear h HV hCE h0
    go_enter Tryz.func120, Tryz.ntmps120
    go_wp2_with fail
    refine (H1.out).mono ?_
    rintro e w1 ⟨rfl, hb1⟩
    rw [HCE.out]
    go_wp2
    go_ret2
    exact ⟨_, by rw [HCE.out]; rfl, hb1⟩
set_option maxRecDepth 100000 in
theorem eSome_any (x v : Int) (h : SpE w S B gn gu gt gc vars R) (hx : I64 x) :
    Calls Tryz.prog 80 #[.pointer (some ⟨S, 0, none⟩), .int .i64 x, .int .i64 v] w (ErrP w (varC vars x v)) := by
  have HI := hide (eBoth_any S B gn gu gt gc vars R w 76 (.inl rfl) x v h hx)
  generalize varC vars x v = C at HI ⊢
  clear h
  have hmf : ∀ (fn : Fn) (first cap : Array Value) (w : World), (Instr.makeFunc fn first cap).run Tryz.prog w = .ok (.func fn first cap) w := by intros; rfl
  go_enter Tryz.func80, Tryz.ntmps80
  go_wp2_with fail
  refine (HI.out).mono ?_
  rintro e w2 ⟨v, rfl, hb⟩
  go_wp2
  go_ret2
  exact ⟨_, rfl, hb⟩
set_option maxRecDepth 100000 in
theorem eEach_any (x v : Int) (h : SpE w S B gn gu gt gc vars R) (hx : I64 x) :
    Calls Tryz.prog 81 #[.pointer (some ⟨S, 0, none⟩), .int .i64 x, .int .i64 v] w (ErrP w (varC vars x v)) := by
  have HI := hide (eBoth_any S B gn gu gt gc vars R w 75 (.inr rfl) x v h hx)
  generalize varC vars x v = C at HI ⊢
  clear h
  have hmf : ∀ (fn : Fn) (first cap : Array Value) (w : World), (Instr.makeFunc fn first cap).run Tryz.prog w = .ok (.func fn first cap) w := by intros; rfl
  go_enter Tryz.func81, Tryz.ntmps81
  go_wp2_with fail
  refine (HI.out).mono ?_
  rintro e w2 ⟨v, rfl, hb⟩
  go_wp2
  go_ret2
  exact ⟨_, rfl, hb⟩
end
end Go.Proofs.YtdlcldhnbhlikaaGreatDoor
