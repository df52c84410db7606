/-
  What a step of ite and a step of set make, from what their parts make. No program in sight.
-/
import Derived.Test.YtfbhmkpihmcegaaDoorBddLaw
namespace Go.Proofs.YtfbhmkpihmcegaaDoor

section
variable {A A1 A2 A3 : Ar} {vars : Int}
/-- a step of ite. -/
theorem ite_join (h : SpA A vars) (h6 : vars ≤ 6) {a b c t lo hi x : Int} (ht : t = topI A a b c) (t0 : 0 ≤ t) (t6 : t < 6) (pa : hasA A a = true) (pb : hasA A b = true) (pc : hasA A c = true)
    (S1 : StpA A A1 vars (wt (topI A (atA A a t false) (atA A b t false) (atA A c t false))) (topI A (atA A a t false) (atA A b t false) (atA A c t false)) lo (iteF A (atA A a t false) (atA A b t false) (atA A c t false)))
    (S2 : StpA A1 A2 vars (wt (topI A1 (atA A a t true) (atA A b t true) (atA A c t true))) (topI A1 (atA A a t true) (atA A b t true) (atA A c t true)) hi (iteF A1 (atA A a t true) (atA A b t true) (atA A c t true)))
    (S3 : StpA A2 A3 vars (if t < 3 then 1 else 0) t x (fun v => if v t then den A2 hi v else den A2 lo v)) :
    StpA A A3 vars (wt t) t x (iteF A a b c) := by
  have ⟨l1, l2, l3⟩ := min3_le (topA A a) (topA A b) (topA A c)
  have ta : t ≤ topA A a := by rw [ht]; exact l1
  have tb : t ≤ topA A b := by rw [ht]; exact l2
  have tc : t ≤ topA A c := by rw [ht]; exact l3
  have fa := fun bb => atA_fine h.wf pa ta (show t < 24 by omega) bb
  have fb := fun bb => atA_fine h.wf pb tb (show t < 24 by omega) bb
  have fc := fun bb => atA_fine h.wf pc tc (show t < 24 by omega) bb
  have x1 := min3_lt (fa false).2.1 (fb false).2.1 (fc false).2.1
  have x2 := min3_lt (fa true).2.1 (fb true).2.1 (fc true).2.1
  have hx12 := topI_ext S1.ext (fa true).1 (fb true).1 (fc true).1
  have hw := wt_two t0 x1 x2
  have f1 := S1.few
  have f2 := S2.few
  have f3 := S3.few
  rw [hx12] at f2
  have e13 := S1.ext.trans (S2.ext.trans S3.ext)
  refine ⟨S3.sp, e13, ?_, S3.has, S3.top, fun v => ?_⟩
  · show low3 A3 ≤ low3 A + wt t
    unfold topI at *
    omega
  · rw [S3.den v, S2.den v, iteF_at h.wf pa pb pc ta tb tc (by omega) v, iteF_ext h S1.sp S1.ext (fa true).1 (fb true).1 (fc true).1 v, S1.sp.same S2.sp S2.ext S1.has v, S1.den v]
/-- What the parts of a step of ite may be asked of. -/
theorem ite_parts (h : SpA A vars) {a b c t : Int} (ht : t = topI A a b c) (t24 : t < 24) (pa : hasA A a = true) (pb : hasA A b = true) (pc : hasA A c = true) (bb : Bool) :
    hasA A (atA A a t bb) = true ∧ hasA A (atA A b t bb) = true ∧ hasA A (atA A c t bb) = true ∧ t < topI A (atA A a t bb) (atA A b t bb) (atA A c t bb) := by
  have ⟨l1, l2, l3⟩ := min3_le (topA A a) (topA A b) (topA A c)
  have fa := atA_fine h.wf pa (show t ≤ topA A a by rw [ht]; exact l1) t24 bb
  have fb := atA_fine h.wf pb (show t ≤ topA A b by rw [ht]; exact l2) t24 bb
  have fc := atA_fine h.wf pc (show t ≤ topA A c by rw [ht]; exact l3) t24 bb
  exact ⟨fa.1, fb.1, fc.1, min3_lt fa.2.1 fb.2.1 fc.2.1⟩
theorem ite_top (h : SpA A vars) {a b c : Int} (pa : hasA A a = true) (a0 : a ≠ 0) (a1 : a ≠ 1) : 0 ≤ topI A a b c ∧ topI A a b c < vars := by
  obtain ⟨d, e⟩ := h.got pa a0 a1
  have h1 := h.lt e
  have h2 := top_some e
  have h3 := h.wf.topR b
  have h4 := h.wf.topR c
  unfold topI min3
  omega
/-- What set makes of a handle. -/
def setF (A : Ar) (h x : Int) (is : Bool) (v : Int → Bool) : Bool := den A h (upd v x is)
theorem setF_ext (h : SpA A vars) (h' : SpA A1 vars) (hx : ExtA A A1) {k x : Int} {is : Bool} (p : hasA A k = true) (v : Int → Bool) : setF A1 k x is v = setF A k x is v := h.same h' hx p _
theorem set_join (h : SpA A vars) {k x lo hi y : Int} {is : Bool} {d : Nd} (e : gotA A k = some d) (hlt : d.var < x)
    (S1 : StpA A A1 vars (wt (topA A d.low)) (topA A d.low) lo (setF A d.low x is)) (S2 : StpA A1 A2 vars (wt (topA A1 d.high)) (topA A1 d.high) hi (setF A1 d.high x is))
    (S3 : StpA A2 A3 vars (if d.var < 3 then 1 else 0) d.var y (fun v => if v d.var then den A2 hi v else den A2 lo v)) :
    StpA A A3 vars (wt (topA A k)) (topA A k) y (setF A k x is) := by
  have hl := h.wf.low _ _ e
  have hh := h.wf.high _ _ e
  have ht := top_some e
  have h0 := h.wf.var _ _ e
  have hw := wt_two (t := d.var) h0.1 hl.2 hh.2
  have f1 := S1.few
  have f2 := S2.few
  have f3 := S3.few
  rw [S1.ext.top hh.1] at f2
  refine ⟨S3.sp, S1.ext.trans (S2.ext.trans S3.ext), by rw [ht]; omega, S3.has, by rw [ht]; exact S3.top, fun v => ?_⟩
  have hd : upd v x is d.var = v d.var := by unfold upd; rw [if_neg (by omega)]
  rw [S3.den v, S2.den v, setF_ext h S1.sp S1.ext hh.1, S1.sp.same S2.sp S2.ext S1.has v, S1.den v]
  show _ = den A k (upd v x is)
  rw [den_some h.wf e, hd]
  cases v d.var <;> rfl
theorem set_here (h : SpA A vars) {k x : Int} {is : Bool} (hlt : x < topA A k) (v : Int → Bool) : den A k v = setF A k x is v := (den_upd h.wf hlt).symm
theorem set_kid (h : SpA A vars) {k x : Int} {is : Bool} {d : Nd} (e : gotA A k = some d) (hx : d.var = x) (v : Int → Bool) : den A (if is then d.high else d.low) v = setF A k x is v := by
  rw [den_kid h.wf e is, hx]
  rfl
end
end Go.Proofs.YtfbhmkpihmcegaaDoor
