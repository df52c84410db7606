/-
  A space's Ite, Not, And, Or, Xor, Some and Each.
-/
import Derived.Test.YtfbhmkpihmcegaaBddSet
import Derived.Laws.EntriesVeiled
namespace Go.Proofs.Ytfbhmkpihmcegaa
open Go.RowKit Go.Maps

/-- What c calls of ite or Set make. -/
def OpP (w : World) (S B gn gu gt gc m : Nat) (vars : Int) (A : Ar) (c : Nat) (F : (Int → Bool) → Bool) (e : Ending) (w' : World) : Prop :=
  StpP w S B gn gu gt gc vars A m (7 * c) (63 * c) 0 F e w'
section
variable {w w' w1 : World} {S B gn gu gt gc m m1 : Nat} {vars : Int} {A A1 A2 : Ar} {F F1 F2 : (Int → Bool) → Bool} {c c1 c2 : Nat}
theorem OpP.after {e : Ending} {x t : Int} (h : OpP w1 S B gn gu gt gc m1 vars A1 c2 F e w') (S1 : StpA A A1 vars (7 * c1) t x F1) (hm : m1 ≤ m + 63 * c1) (hf : Fr (spB B gn gu gt gc) w w1) : OpP w S B gn gu gt gc m vars A (c1 + c2) F e w' := by
  obtain ⟨A', y, m', e1, e2, e3, e4, e5⟩ := h
  exact ⟨A', y, m', e1, e2, ⟨e3.sp, S1.ext.trans e3.ext, by have := e3.few; have := S1.few; omega, e3.has, e3.top, e3.den⟩, by omega, hf.trans e5⟩
/-- Room for so many. -/
structure OpI (w : World) (S B gn gu gt gc m : Nat) (vars : Int) (A : Ar) (c : Nat) : Prop where
  sp : SpM w S B gn gu gt gc vars A m
  low : low3 A + 7 * c ≤ 2000
  most : m + 63 * c ≤ 1000000
theorem OpI.next (h : OpI w S B gn gu gt gc m vars A (c1 + c2)) {x t : Int} (hs : SpM w1 S B gn gu gt gc vars A1 m1) (S1 : StpA A A1 vars (7 * c1) t x F1) (hm : m1 ≤ m + 63 * c1) : OpI w1 S B gn gu gt gc m1 vars A1 c2 :=
  ⟨hs, by have := h.low; have := S1.few; omega, by have := h.most; omega⟩
theorem SpA.top0 (h : SpA A vars) (x : Int) : 0 ≤ topA A x := (h.wf.topR x).1
theorem topI0 (h : SpA A vars) (a b c : Int) : 0 ≤ topI A a b c := by
  have := h.top0 a
  have := h.top0 b
  have := h.top0 c
  unfold topI min3
  omega
end
section
variable (S B gn gu gt gc m : Nat) (vars : Int) (A : Ar) (w : World)
set_option maxHeartbeats 2000000 in
theorem bdIte_any (a b c : Int) (F : (Int → Bool) → Bool) (h : OpI w S B gn gu gt gc m vars A 1) (pa : hasA A a = true) (pb : hasA A b = true) (pc : hasA A c = true) (hF : ∀ v, iteF A a b c v = F v) :
    Calls Try.prog 43 #[.pointer (some ⟨S, 0, none⟩), .int .i64 a, .int .i64 b, .int .i64 c] w (OpP w S B gn gu gt gc m vars A 1 F) := by
  have s0 := h.sp.kS.cell 0
  have HA := hide (hasA_call B gn gu gt A a w h.sp.ar (h.sp.sp.i64 pa) pa)
  have HB := hide (hasA_call B gn gu gt A b w h.sp.ar (h.sp.sp.i64 pb) pb)
  have HC := hide (hasA_call B gn gu gt A c w h.sp.ar (h.sp.sp.i64 pc) pc)
  have HI := hide ((bdite_any S B gn gu gt gc m vars A w a b c ⟨h.sp, pa, pb, pc, by have := h.low; have := wt_le (topI A a b c); omega, by have := h.most; have := wc_le (topI A a b c); omega⟩).mono fun e w' hp =>
    show OpP w S B gn gu gt gc m vars A 1 F e w' from StpP.mono hp (by have := wt_le (topI A a b c); omega) (by have := wc_le (topI A a b c); omega) (topI0 h.sp.sp a b c) hF)
  clear h
  go_enter Try.func43, Try.ntmps43
  go_wp2_with fail
  refine (HA.out).mono ?_
  rintro e w1 ⟨rfl, rfl⟩
  go_wp2_with fail
  refine (HB.out).mono ?_
  rintro e w1 ⟨rfl, rfl⟩
  go_wp2_with fail
  refine (HC.out).mono ?_
  rintro e w1 ⟨rfl, rfl⟩
  go_wp2_with fail
  refine (HI.out).mono ?_
  rintro e w2 hp
  have hq := hide hp
  obtain ⟨A', x, m', rfl, -⟩ := hp
  go_wp2
  go_ret2
  exact hq.out
set_option maxHeartbeats 1000000 in
theorem bdNot_any (a : Int) (F : (Int → Bool) → Bool) (h : OpI w S B gn gu gt gc m vars A 1) (pa : hasA A a = true) (hF : ∀ v, (!den A a v) = F v) :
    Calls Try.prog 39 #[.pointer (some ⟨S, 0, none⟩), .int .i64 a] w (OpP w S B gn gu gt gc m vars A 1 F) := by
  have HI := hide (bdIte_any S B gn gu gt gc m vars A w a 0 1 F h pa has_ends.1 has_ends.2 (fun v => by
    rw [← hF v]
    unfold iteF
    rw [den_zero, den_one]
    cases den A a v <;> rfl))
  clear h
  go_enter Try.func39, Try.ntmps39
  go_wp2_with fail
  refine (HI.out).mono ?_
  rintro e w2 hp
  have hq := hide hp
  obtain ⟨A', x, m', rfl, -⟩ := hp
  go_wp2
  go_ret2
  exact hq.out
set_option maxHeartbeats 1000000 in
theorem bdAnd_any (a b : Int) (F : (Int → Bool) → Bool) (h : OpI w S B gn gu gt gc m vars A 1) (pa : hasA A a = true) (pb : hasA A b = true) (hF : ∀ v, (den A a v && den A b v) = F v) :
    Calls Try.prog 40 #[.pointer (some ⟨S, 0, none⟩), .int .i64 a, .int .i64 b] w (OpP w S B gn gu gt gc m vars A 1 F) := by
  have HI := hide (bdIte_any S B gn gu gt gc m vars A w a b 0 F h pa pb has_ends.1 (fun v => by
    rw [← hF v]
    unfold iteF
    rw [den_zero]
    cases den A a v <;> rfl))
  clear h
  go_enter Try.func40, Try.ntmps40
  go_wp2_with fail
  refine (HI.out).mono ?_
  rintro e w2 hp
  have hq := hide hp
  obtain ⟨A', x, m', rfl, -⟩ := hp
  go_wp2
  go_ret2
  exact hq.out
set_option maxHeartbeats 1000000 in
theorem bdOr_any (a b : Int) (F : (Int → Bool) → Bool) (h : OpI w S B gn gu gt gc m vars A 1) (pa : hasA A a = true) (pb : hasA A b = true) (hF : ∀ v, (den A a v || den A b v) = F v) :
    Calls Try.prog 41 #[.pointer (some ⟨S, 0, none⟩), .int .i64 a, .int .i64 b] w (OpP w S B gn gu gt gc m vars A 1 F) := by
  have HI := hide (bdIte_any S B gn gu gt gc m vars A w a 1 b F h pa has_ends.2 pb (fun v => by
    rw [← hF v]
    unfold iteF
    rw [den_one]
    cases den A a v <;> rfl))
  clear h
  go_enter Try.func41, Try.ntmps41
  go_wp2_with fail
  refine (HI.out).mono ?_
  rintro e w2 hp
  have hq := hide hp
  obtain ⟨A', x, m', rfl, -⟩ := hp
  go_wp2
  go_ret2
  exact hq.out
set_option maxHeartbeats 1000000 in
theorem bdXor_any (a b : Int) (F : (Int → Bool) → Bool) (h : OpI w S B gn gu gt gc m vars A (1 + 1)) (pa : hasA A a = true) (pb : hasA A b = true) (hF : ∀ v, (den A a v != den A b v) = F v) :
    Calls Try.prog 42 #[.pointer (some ⟨S, 0, none⟩), .int .i64 a, .int .i64 b] w (OpP w S B gn gu gt gc m vars A (1 + 1) F) := by
  have HN := hide (bdNot_any S B gn gu gt gc m vars A w b (fun v => !den A b v) ⟨h.sp, by have := h.low; omega, by have := h.most; omega⟩ pb (fun _ => rfl))
  have H := hide h
  clear h
  go_enter Try.func42, Try.ntmps42
  go_wp2_with fail
  refine (HN.out).mono ?_
  rintro e w1 ⟨A1, n, m1, rfl, hs1, T1, hm1, hf1⟩
  have HI := hide ((bdIte_any S B gn gu gt gc m1 vars A1 w1 a n b F (H.out.next hs1 T1 hm1) (T1.ext.has pa) T1.has (T1.ext.has pb) (fun v => by
    rw [← hF v]
    unfold iteF
    rw [T1.den, H.out.sp.sp.same T1.sp T1.ext pa, H.out.sp.sp.same T1.sp T1.ext pb]
    cases den A a v <;> cases den A b v <;> rfl)).mono fun e w' hp => hp.after T1 hm1 hf1)
  clear hs1 T1 hm1 hf1
  go_wp2_with fail
  refine (HI.out).mono ?_
  rintro e w2 hp
  have hq := hide hp
  obtain ⟨A', x, m', rfl, -⟩ := hp
  go_wp2
  go_ret2
  exact hq.out
set_option maxHeartbeats 1000000 in
theorem bdSetO_any (h x : Int) (is : Bool) (F : (Int → Bool) → Bool) (hI : OpI w S B gn gu gt gc m vars A 1) (p : hasA A h = true) (x0 : 0 ≤ x) (xv : x < vars) (hF : ∀ v, setF A h x is v = F v) :
    Calls Try.prog 44 #[.pointer (some ⟨S, 0, none⟩), .int .i64 h, .int .i64 x, .bool is] w (OpP w S B gn gu gt gc m vars A 1 F) :=
  (bdSet_any S B gn gu gt gc m vars A w x is h hI.sp p x0 xv (by have := hI.low; have := wt_le (topA A h); omega)).mono fun e w' hp =>
    show OpP w S B gn gu gt gc m vars A 1 F e w' from StpP.mono hp (by have := wt_le (topA A h); omega) (by omega) (hI.sp.sp.top0 h) hF
/-- What both asks of its function. -/
def WithC (S B gn gu gt gc : Nat) (vars : Int) (f : FuncId) (g : Bool → Bool → Bool) : Prop := ∀ (m : Nat) (A : Ar) (w : World) (a b : Int) (F : (Int → Bool) → Bool), OpI w S B gn gu gt gc m vars A 1 → hasA A a = true → hasA A b = true → (∀ v, g (den A a v) (den A b v) = F v) →
  Calls Try.prog f #[.pointer (some ⟨S, 0, none⟩), .int .i64 a, .int .i64 b] w (OpP w S B gn gu gt gc m vars A 1 F)
set_option maxRecDepth 100000 in
set_option maxHeartbeats 2000000 in
theorem bdBoth_any (f : FuncId) (g : Bool → Bool → Bool) (hfn : f = 41 ∨ f = 40) (h x : Int) (F : (Int → Bool) → Bool) (hI : OpI w S B gn gu gt gc m vars A (1 + (1 + 1))) (p : hasA A h = true) (x0 : 0 ≤ x) (xv : x < vars) (hW : WithC S B gn gu gt gc vars f g) (hF : ∀ v, g (setF A h x false v) (setF A h x true v) = F v) :
    Calls Try.prog 71 #[.pointer (some ⟨S, 0, none⟩), .int .i64 h, .int .i64 x, .func (.func f) #[.pointer (some ⟨S, 0, none⟩)] #[]] w (OpP w S B gn gu gt gc m vars A (1 + (1 + 1)) F) := by
  rcases hfn with rfl | rfl
  all_goals
    have H1 := hide (bdSetO_any S B gn gu gt gc m vars A w h x false (setF A h x false) ⟨hI.sp, by have := hI.low; omega, by have := hI.most; omega⟩ p x0 xv (fun _ => rfl))
    have H := hide hI
    clear hI
    go_enter Try.func71, Try.ntmps71
    go_wp2_with fail
    refine (H1.out).mono ?_
    rintro e w1 ⟨A1, lo, m1, rfl, hs1, T1, hm1, hf1⟩
    have HX1 := hide (H.out.next hs1 T1 hm1)
    have HT1 := hide (And.intro T1 (And.intro hm1 hf1))
    have H2 := hide (bdSetO_any S B gn gu gt gc m1 vars A1 w1 h x true (setF A1 h x true) ⟨hs1, by have := HX1.out.low; omega, by have := HX1.out.most; omega⟩ (T1.ext.has p) x0 xv (fun _ => rfl))
    clear hs1 T1 hm1 hf1 H1
    go_wp2_with fail
    refine (H2.out).mono ?_
    rintro e w2 ⟨A2, hi, m2, rfl, hs2, T2, hm2, hf2⟩
    have HW := hide ((hW m2 A2 w2 lo hi F (HX1.out.next hs2 T2 hm2) (T2.ext.has HT1.out.1.has) T2.has (fun v => by
      rw [← hF v, T2.den, HT1.out.1.sp.same T2.sp T2.ext HT1.out.1.has, HT1.out.1.den, setF_ext H.out.sp.sp HT1.out.1.sp HT1.out.1.ext p])).mono fun e w' hp => (hp.after T2 hm2 hf2).after HT1.out.1 HT1.out.2.1 HT1.out.2.2)
    clear hs2 T2 hm2 hf2 H2
    go_wp2_with fail
    refine (HW.out).mono ?_
    rintro e w3 hp
    have hq := hide hp
    obtain ⟨A', y, m', rfl, -⟩ := hp
    go_wp2
    go_ret2
    exact hq.out
set_option maxRecDepth 100000 in
set_option maxHeartbeats 1000000 in
theorem bdSome_any (h x : Int) (F : (Int → Bool) → Bool) (hI : OpI w S B gn gu gt gc m vars A (1 + (1 + 1))) (p : hasA A h = true) (x0 : 0 ≤ x) (xv : x < vars) (hF : ∀ v, (setF A h x false v || setF A h x true v) = F v) :
    Calls Try.prog 45 #[.pointer (some ⟨S, 0, none⟩), .int .i64 h, .int .i64 x] w (OpP w S B gn gu gt gc m vars A (1 + (1 + 1)) F) := by
  have HI := hide (bdBoth_any S B gn gu gt gc m vars A w 41 (fun a b => a || b) (.inl rfl) h x F hI p x0 xv (fun m A w a b F h1 h2 h3 h4 => bdOr_any S B gn gu gt gc m vars A w a b F h1 h2 h3 h4) hF)
  clear hI
  have hmf : ∀ (fn : Fn) (first cap : Array Value) (w : World), (Instr.makeFunc fn first cap).run Try.prog w = .ok (.func fn first cap) w := by intros; rfl
  go_enter Try.func45, Try.ntmps45
  go_wp2_with fail
  refine (HI.out).mono ?_
  rintro e w2 hp
  have hq := hide hp
  obtain ⟨A', y, m', rfl, -⟩ := hp
  go_wp2
  go_ret2
  exact hq.out
set_option maxRecDepth 100000 in
set_option maxHeartbeats 1000000 in
theorem bdEach_any (h x : Int) (F : (Int → Bool) → Bool) (hI : OpI w S B gn gu gt gc m vars A (1 + (1 + 1))) (p : hasA A h = true) (x0 : 0 ≤ x) (xv : x < vars) (hF : ∀ v, (setF A h x false v && setF A h x true v) = F v) :
    Calls Try.prog 46 #[.pointer (some ⟨S, 0, none⟩), .int .i64 h, .int .i64 x] w (OpP w S B gn gu gt gc m vars A (1 + (1 + 1)) F) := by
  have HI := hide (bdBoth_any S B gn gu gt gc m vars A w 40 (fun a b => a && b) (.inr rfl) h x F hI p x0 xv (fun m A w a b F h1 h2 h3 h4 => bdAnd_any S B gn gu gt gc m vars A w a b F h1 h2 h3 h4) hF)
  clear hI
  have hmf : ∀ (fn : Fn) (first cap : Array Value) (w : World), (Instr.makeFunc fn first cap).run Try.prog w = .ok (.func fn first cap) w := by intros; rfl
  go_enter Try.func46, Try.ntmps46
  go_wp2_with fail
  refine (HI.out).mono ?_
  rintro e w2 hp
  have hq := hide hp
  obtain ⟨A', y, m', rfl, -⟩ := hp
  go_wp2
  go_ret2
  exact hq.out
end
end Go.Proofs.Ytfbhmkpihmcegaa
