/-
  A part of the proof: PaR11. Conditions: none.
-/
import Derived.Test.YtmncoldaemcnlaaGreatDoorCmSpParse
import Derived.Test.YtmncoldaemcnlaaGreatDoorCmSpHas
import Derived.Test.YtmncoldaemcnlaaGreatDoorCmCatNew
import Derived.Test.YtmncoldaemcnlaaGreatDoorCmRefTxt
namespace Go.Proofs.YtmncoldaemcnlaaGreatDoor
open Go.RowKit Go.Shelf
attribute [local go_sem] Oper.semAt_some
set_option maxRecDepth 100000
end Go.Proofs.YtmncoldaemcnlaaGreatDoor
namespace Go
open Go.RowKit
open Go.Proofs.YtmncoldaemcnlaaGreatDoor
structure StG (ops : Array Oper) (R : Nat → World → Value → Prop) (J : Array Bool → World → Prop) (a0 : Act) (listed : Array Bool) (a : Act) (w : World) : Prop where
 defers : a.defers = a0.defers
 size : a.tmps.size = a0.tmps.size
 old : ∀ k, (ops.toList.all fun o => o.dst != some k) = true → a.tmps[k]? = a0.tmps[k]?
 new : ∀ (i : Nat) (o : Oper) (d : Nat), ops[i]? = some o → o.dst = some d → listed.getD i false = true → ∃ v, a.tmps[d]? = some v ∧ R i w v
 j : J listed w
section
variable {F : Fence} {n : Nat} {P : Program} {md : Region.Mode} {ops : Array Oper} {R : Nat → World → Value → Prop} {J : Array Bool → World → Prop} {a0 : Act} {Q : Exit → Act → World → Prop}
theorem StG.put {listed : Array Bool} {a : Act} {w w' : World} {i : Nat} {o : Oper} {v : Value} (h : StG ops R J a0 listed a w) (ho : ops[i]? = some o)
  (hd : ∀ (i j : Nat) (oi oj : Oper) (d : Nat), ops[i]? = some oi → ops[j]? = some oj → oi.dst = some d → oj.dst = some d → i = j)
  (hs : ∀ (i : Nat) (o : Oper) (d : Nat), ops[i]? = some o → o.dst = some d → d < a0.tmps.size) (hv : R i w' v) (hk : ∀ k u, listed.getD k false = true → R k w u → R k w' u) (hJ : J (listed.setIfInBounds i true) w') : StG ops R J a0 (listed.setIfInBounds i true) (a.put o.dst v) w' := by
 have hsz : (a.put o.dst v).tmps.size = a0.tmps.size := by
  cases e : o.dst with
  | none => simpa [Act.put, e] using h.size
  | some d => simpa [Act.put, e] using h.size
 refine ⟨?_, hsz, ?_, ?_, hJ⟩
 ·cases e : o.dst <;> simpa [Act.put, e] using h.defers
 ·intro k hk
  cases e : o.dst with
  | none => simpa [Act.put, e] using h.old k hk
  | some d =>
   have hne : d ≠ k := by
    intro e2
    subst e2
    have := List.all_eq_true.1 hk o (by
     have := Array.mem_of_getElem? ho
     simpa using this)
    rw [e] at this
    simp at this
   simp only [Act.put]
   rw [Array.getElem?_setIfInBounds_ne hne]
   exact h.old k hk
 ·intro j oj d hj hjd hl
  by_cases e : j = i
  ·subst e
   obtain rfl : o = oj := Option.some.inj (ho.symm.trans hj)
   refine ⟨v, ?_, hv⟩
   rw [hjd]
   simp only [Act.put]
   rw [Array.getElem?_setIfInBounds_self_of_lt (by rw [h.size]; exact hs _ _ _ hj hjd)]
  ·have hl2 : listed.getD j false = true := by
    rw [Array.getD_eq_getD_getElem?, Array.getElem?_setIfInBounds_ne (fun e2 => e e2.symm), ← Array.getD_eq_getD_getElem?] at hl
    exact hl
   obtain ⟨u, h1, h2⟩ := h.new j oj d hj hjd hl2
   refine ⟨u, ?_, hk _ _ hl2 h2⟩
   cases e3 : o.dst with
   | none => simpa [Act.put, e3] using h1
   | some d' =>
    have hne : d' ≠ d := fun e4 => e (hd j i oj o d hj ho hjd (by rw [e3, e4]))
    simp only [Act.put]
    rw [Array.getElem?_setIfInBounds_ne hne]
    exact h1
theorem wpAnyIn_stG (hd : ∀ (i j : Nat) (oi oj : Oper) (d : Nat), ops[i]? = some oi → ops[j]? = some oj → oi.dst = some d → oj.dst = some d → i = j)
  (hs : ∀ (i : Nat) (o : Oper) (d : Nat), ops[i]? = some o → o.dst = some d → d < a0.tmps.size) (hac : ∀ (j : Nat) (o : Oper), ops[j]? = some o → ∀ e ∈ o.after, e.on < j)
  (hstep : ∀ (i : Nat) (o : Oper) (listed : Array Bool) (a : Act) (w : World), ops[i]? = some o → listed.size = ops.size → i ∈ Region.ready md ops listed → StG ops R J a0 listed a w → Region.wanted o (yielded ops a.tmps) = true ∧
   o.wpIn F n P a w (fun a' w' => ∃ v, a' = a.put o.dst v ∧ R i w' v ∧ (∀ k u, listed.getD k false = true → R k w u → R k w' u) ∧ J (listed.setIfInBounds i true) w') Q)
  (hend : ∀ listed a w, (∀ i, i < ops.size → listed.getD i false = true) → StG ops R J a0 listed a w → Q .normal a w) :
  ∀ (fuel : Nat) (listed : Array Bool) (a : Act) (w : World), listed.size = ops.size → listed.toList.count false ≤ fuel → StG ops R J a0 listed a w → wpAnyIn F n P md ops Q fuel listed a w
 | 0, listed, a, w, hl, hc, h => by
  have hnil : Region.ready md ops listed = [] := by
   cases e : Region.ready md ops listed with
   | nil => rfl
   | cons i r =>
    have hm : i ∈ Region.ready md ops listed := by rw [e]; exact List.mem_cons_self ..
    obtain ⟨h1, _⟩ := mem_ready.1 hm
    have hz : listed.toList.count false = 0 := by omega
    rw [List.count_eq_zero] at hz
    rw [Array.getD_eq_getD_getElem?] at h1
    cases e2 : listed[i]? with
    | none => rw [e2] at h1; cases h1
    | some b =>
     rw [e2] at h1
     simp at h1
     subst h1
     exact absurd (by have := Array.mem_of_getElem? e2; simpa using this) hz
  exact ⟨hnil, hend _ _ _ (all_done hl hac hnil) h⟩
 | fuel + 1, listed, a, w, hl, hc, h => by
  refine ⟨fun hnil => hend _ _ _ (all_done hl hac hnil) h, fun i hi => ?_⟩
  obtain ⟨h1, o, ho, _⟩ := mem_ready.1 hi
  obtain ⟨hw, hp⟩ := hstep i o listed a w ho hl hi h
  unfold wpOpIn
  simp only [ho]
  rw [if_pos hw]
  refine Oper.wpIn_mono ?_ hp
  rintro a' w' ⟨v, rfl, hv, hk, hj⟩
  refine wpAnyIn_stG hd hs hac hstep hend fuel _ _ _ (by simpa using hl) ?_ (h.put ho hd hs hv hk hj)
  have hlt : i < ops.size := (Array.getElem?_eq_some_iff.1 ho).1
  have e : listed.toList[i]? = some false := by
   rw [Array.getD_eq_getD_getElem?, Array.getElem?_eq_getElem (by omega)] at h1
   rw [Array.getElem?_toList, Array.getElem?_eq_getElem (by omega)]
   simpa using h1
  have := count_done listed.toList i e
  rw [Array.toList_setIfInBounds]
  omega
theorem wpIn_region_stG {id : Nat} {w0 : World} (N : Nat) (hm : P.follows .mixedOrders = true) (hN : a0.tmps.size = N) (hd : decide (ops.toList.filterMap (·.dst)).Nodup = true)
  (hs : (ops.toList.all fun o => decide (o.dst.getD 0 < N)) = true) (hac : acyc ops.toList = true) (h0 : J (Array.replicate ops.size false) w0.drew)
  (hstep : ∀ (i : Nat) (o : Oper) (listed : Array Bool) (a : Act) (w : World), ops[i]? = some o → listed.size = ops.size → i ∈ Region.ready .any ops listed → StG ops R J a0 listed a w → Region.wanted o (yielded ops a.tmps) = true ∧
   o.wpIn F n P a w (fun a' w' => ∃ v, a' = a.put o.dst v ∧ R i w' v ∧ (∀ k u, listed.getD k false = true → R k w u → R k w' u) ∧ J (listed.setIfInBounds i true) w') Q)
  (hend : ∀ listed a w, (∀ i, i < ops.size → listed.getD i false = true) → StG ops R J a0 listed a w → Q .normal a w) : (Code.region id ops true).wpIn F n P Q a0 w0 := by
 have hd' : ∀ (i j : Nat) (oi oj : Oper) (d : Nat), ops[i]? = some oi → ops[j]? = some oj → oi.dst = some d → oj.dst = some d → i = j := fun i j oi oj d h1 h2 d1 d2 => nodup_idx ops.toList (of_decide_eq_true hd) i j oi oj d (by simpa using h1) (by simpa using h2) d1 d2
 have hs' : ∀ (i : Nat) (o : Oper) (d : Nat), ops[i]? = some o → o.dst = some d → d < a0.tmps.size := fun i o d h1 h2 => by
  have := List.all_eq_true.1 hs o (by have := Array.mem_of_getElem? h1; simpa using this)
  rw [h2] at this
  rw [hN]
  simpa using this
 refine wpIn_region_any hm (wpAnyIn_stG hd' hs' (acyc_at hac) hstep hend _ _ _ _ (by simp) (by simp) ⟨rfl, rfl, fun _ _ => rfl, fun i o d ho _ hl => ?_, h0⟩)
 rw [Array.getD_eq_getD_getElem?, Array.getElem?_replicate] at hl
 split at hl <;> simp at hl
theorem StG.was {listed : Array Bool} {a : Act} {w : World} {k : Nat} {v : Value} (h : StG ops R J a0 listed a w) (hk : (ops.toList.all fun o => o.dst != some k) = true) (hv : a0.tmps[k]? = some v) : a.tmps[k]? = some v := (h.old k hk).trans hv
theorem StG.got {listed : Array Bool} {a : Act} {w : World} {i : Nat} {o oj : Oper} (h : StG ops R J a0 listed a w) (hr : i ∈ Region.ready md ops listed) (ho : ops[i]? = some o) (j : Nat) (d : Nat) (hdep : (o.after.any fun e => e.on == j && Region.binds md e) = true) (hj : ops[j]? = some oj) (hd : oj.dst = some d) : ∃ v, a.tmps[d]? = some v ∧ R j w v := by
 obtain ⟨_, o', ho', hall⟩ := mem_ready.1 hr
 obtain rfl : o = o' := Option.some.inj (ho.symm.trans ho')
 obtain ⟨e, he, h2⟩ := Array.any_eq_true'.1 hdep
 simp only [Bool.and_eq_true, beq_iff_eq] at h2
 have h3 := hall e he h2.2
 rw [h2.1] at h3
 exact h.new j oj d hj hd h3
theorem StG.ahead {listed : Array Bool} {i : Nat} {o : Oper} (hr : i ∈ Region.ready md ops listed) (ho : ops[i]? = some o) (j : Nat) (hdep : (o.after.any fun e => e.on == j && Region.binds md e) = true) : listed.getD j false = true := by
 obtain ⟨_, o', ho', hall⟩ := mem_ready.1 hr
 obtain rfl : o = o' := Option.some.inj (ho.symm.trans ho')
 obtain ⟨e, he, h2⟩ := Array.any_eq_true'.1 hdep
 simp only [Bool.and_eq_true, beq_iff_eq] at h2
 have h3 := hall e he h2.2
 rwa [h2.1] at h3
theorem StG.fresh {listed : Array Bool} {i : Nat} (hr : i ∈ Region.ready md ops listed) : listed.getD i false = false := by
 obtain ⟨h1, _⟩ := mem_ready.1 hr
 rw [Array.getD_eq_getD_getElem?] at h1 ⊢
 cases e : listed[i]? with
 | none => rfl
 | some b => rw [e] at h1; simpa using h1
theorem getG_same {listed : Array Bool} {i : Nat} (h : i < listed.size) : (listed.setIfInBounds i true).getD i false = true := by
 rw [Array.getD_eq_getD_getElem?, Array.getElem?_setIfInBounds_self_of_lt h]; rfl
theorem getG_ne {listed : Array Bool} {i j : Nat} (h : i ≠ j) : (listed.setIfInBounds i true).getD j false = listed.getD j false := by
 rw [Array.getD_eq_getD_getElem?, Array.getElem?_setIfInBounds_ne h, ← Array.getD_eq_getD_getElem?]
end
end Go
namespace Go.Proofs.YtmncoldaemcnlaaGreatDoor
open Go.RowKit Go.Shelf
open Classical
set_option maxRecDepth 100000
def paX (n k : Nat) : Prop := (n ≤ k ∧ k < n + 5) ∨ n + 10 ≤ k
def paL (n k : Nat) : Prop := k = n + 5 ∨ k = n + 8 ∨ k = n + 8 + 1
theorem own_blk {w : World} {b s n : Nat} {e : TypeId} {v : Value} {xs : List Value} (h : w.ownsRow b e s v n xs) {k : Nat} (hk : v.ownBlock = some k) : ∃ cs, Blk w k e cs ∧ b ≤ k := by
 rcases h.2 with ⟨rfl, _⟩ | ⟨g, cap, cur, rfl, hg, hgc, _⟩
 ·simp [Value.ownBlock] at hk
 ·have e : g = k := Option.some.inj hk
  subst e
  exact ⟨cur, hgc, hg⟩
structure PaM (n : Nat) (W0 : World) (a : Int) (v4 v5 : Value) (qs : List LnQ) (ps : List Int) (W : World) : Prop where
 b2 : Blk W n 48 #[.pointer none]
 b3 : Blk W (n + 1) 40 #[.nilIface]
 b4 : Blk W (n + 2) 73 #[v4]
 b5 : Blk W (n + 3) 24 #[v5]
 b6 : Blk W (n + 4) 3 #[.int .i64 a]
 rA : OwnK elP W (n + 10) v4 qs
 rB : OwnI W (n + 10) v5 ps
 inn : ∀ q ∈ qs, OwnP W (n + 10) (slQ q) q.1.rg ∧ LnOk q.1
 fr : Fr (paX n) W0 W
structure PaI (w0 : World) (t : ByteArray) (pre : List ByteArray) (W : World) : Prop where
 is : ∃ v4 v5 qs ps, ∃ a : Nat, PaM w0.heap.size W (a : Int) v4 v5 qs ps W ∧ linesR ((nlL t).drop pre.length) a (qs.map (·.1)) ps = linesR (nlL t) 0 [] [] ∧ qs.length ≤ pre.length ∧ ps.length = qs.length ∧ a ≤ 20001 * pre.length
 bel : Below w0.heap.size w0 W
structure PaX (w0 : World) (t : ByteArray) (W : World) : Prop where
 b2 : Blk W w0.heap.size 48 #[.pointer none]
 is : ∃ u, ∃ f : Int × Int, Blk W (w0.heap.size + 1) 40 #[u] ∧ IsErr W u f ∧ (∀ b, u = .iface 138 (.pointer (some ⟨b, 0, none⟩)) → w0.heap.size + 10 ≤ b) ∧ f.1 ≠ 0 ∧ linesR (nlL t) 0 [] [] = .inl f
 bel : Below w0.heap.size w0 W
section
variable {n : Nat} {W0 W W' : World} {a : Int} {v4 v5 : Value} {qs : List LnQ} {ps : List Int}
theorem PaM.below (h : PaM n W0 a v4 v5 qs ps W) (hb : Below W.heap.size W W') : PaM n W0 a v4 v5 qs ps W' :=
 ⟨h.b2.below hb h.b2.lt, h.b3.below hb h.b3.lt, h.b4.below hb h.b4.lt, h.b5.below hb h.b5.lt, h.b6.below hb h.b6.lt, h.rA.below hb, h.rB.below hb, fun q hq => ⟨(h.inn q hq).1.below hb, (h.inn q hq).2⟩, h.fr.trans (.of_below hb (Nat.le_refl _))⟩
theorem PaM.loop (h : PaM n W a v4 v5 qs ps W) (hf : Fr (paL n) W W') : PaM n W' a v4 v5 qs ps W' :=
 ⟨h.b2.fr hf (by unfold paL; omega), h.b3.fr hf (by unfold paL; omega), h.b4.fr hf (by unfold paL; omega), h.b5.fr hf (by unfold paL; omega), h.b6.fr hf (by unfold paL; omega), h.rA.fr hf (fun k hk => by have := (h.rA.lt k hk).1; unfold paL; omega), h.rB.fr hf (fun k hk => by unfold paL; omega), fun q hq => ⟨(h.inn q hq).1.fr hf (fun k hk => by unfold paL; omega), (h.inn q hq).2⟩, Fr.refl _ _⟩
theorem PaI.fr {w0 : World} {t : ByteArray} {pre : List ByteArray} {A B : World} (h : PaI w0 t pre A) (hf : Fr (paL w0.heap.size) A B) : PaI w0 t pre B := by
 obtain ⟨v4, v5, qs, ps, a, hm, h4⟩ := h.is
 exact ⟨⟨v4, v5, qs, ps, a, hm.loop hf, h4⟩, h.bel.trans (hf.to_below h.bel.size (fun k hk => by unfold paL; omega))⟩
theorem PaX.fr {w0 : World} {t : ByteArray} {A B : World} (h : PaX w0 t A) (hf : Fr (paL w0.heap.size) A B) : PaX w0 t B := by
 obtain ⟨u, q, h1, h2, hb, h3, h4⟩ := h.is
 refine ⟨h.b2.fr hf (by unfold paL; omega), ⟨u, q, h1.fr hf (by unfold paL; omega), ?_, hb, h3, h4⟩, h.bel.trans (hf.to_below h.bel.size (fun k hk => by unfold paL; omega))⟩
 rcases h2 with h2 | h2 | ⟨b, hlt, e1, e2, e3, e4, e5⟩
 ·exact .inl h2
 ·exact .inr (.inl h2)
 ·have := hb b e4
  exact .inr (.inr ⟨b, Nat.lt_of_lt_of_le hlt hf.size, e1, e2, e3, e4, e5.fr hf (by unfold paL; omega)⟩)
theorem PaM.next {w0 : World} {t p : ByteArray} {pre r : List ByteArray} {a' : Nat} (h : PaM w0.heap.size W0 a v4 v5 qs ps W) (hb : Below w0.heap.size w0 W0) (hpx : pre ++ p :: r = nlL t) (hi : linesR r a' (qs.map (·.1)) ps = linesR (nlL t) 0 [] []) (hq : qs.length ≤ pre.length + 1) (hl : ps.length = qs.length) (ha : a' ≤ 20001 * (pre.length + 1)) {W' : World} (hW : W' = W.setCell ⟨w0.heap.size + 4, 0, none⟩ (.int .i64 (a' : Int))) :
  Fr (paX w0.heap.size) W0 W' ∧ PaI w0 t (pre ++ [p]) W' := by
 subst hW
 have f : Fr (paX w0.heap.size) W0 (W.setCell ⟨w0.heap.size + 4, 0, none⟩ (.int .i64 (a' : Int))) := h.fr.set_ (p := ⟨w0.heap.size + 4, 0, none⟩) (by show paX w0.heap.size (w0.heap.size + 4); unfold paX; omega) _
 have f1 : Fr (fun k => k = w0.heap.size + 4) W (W.setCell ⟨w0.heap.size + 4, 0, none⟩ (.int .i64 (a' : Int))) := Fr.set_ (S := fun k => k = w0.heap.size + 4) (Fr.refl _ _) (p := ⟨w0.heap.size + 4, 0, none⟩) rfl _
 refine ⟨f, ⟨v4, v5, qs, ps, a', ⟨h.b2.fr f1 (by omega), h.b3.fr f1 (by omega), h.b4.fr f1 (by omega), h.b5.fr f1 (by omega), h.b6.set_ 0 _, h.rA.fr f1 (fun k hk => by have := (h.rA.lt k hk).1; omega), h.rB.fr f1 (fun k hk => by omega), fun q hq => ⟨(h.inn q hq).1.fr f1 (fun k hk => by omega), (h.inn q hq).2⟩, Fr.refl _ _⟩, ?_, by simpa using hq, hl, by simpa using ha⟩, ?_⟩
 ·have e : (nlL t).drop (pre ++ [p]).length = r := by rw [← hpx, show pre ++ p :: r = (pre ++ [p]) ++ r by simp, List.drop_left]
  rw [e]
  exact hi
 ·exact hb.trans (f.to_below hb.size (fun k hk => by unfold paX; omega))
end
end Go.Proofs.YtmncoldaemcnlaaGreatDoor
namespace Go.Proofs.YtmncoldaemcnlaaGreatDoor
open Go.RowKit Go.Shelf
set_option maxRecDepth 100000
theorem ownT_apart {w : World} {b s n : Nat} {e : TypeId} {v : Value} {xs : List Value} (h : w.ownsRow b e s v n xs) {r : Option Nat} (hr : ∀ k, r = some k → ∃ t cs, Blk w k t cs ∧ e ≠ t) : v.ownBlock = none ∨ v.ownBlock ≠ r := by
 cases e9 : v.ownBlock with
 | none => exact .inl rfl
 | some k =>
  refine .inr fun e8 => ?_
  obtain ⟨cs, h1, _⟩ := own_blk h e9
  obtain ⟨t, cs', h2, h3⟩ := hr k e8.symm
  exact Blk.ne_ h1 h2 h3 rfl
theorem getG_on {listed : Array Bool} {i k : Nat} (h : listed.getD k false = true) : (listed.setIfInBounds i true).getD k false = true := by
 by_cases e : i = k
 ·subst e
  refine getG_same ?_
  rw [Array.getD_eq_getD_getElem?] at h
  by_cases e : i < listed.size
  ·exact e
  ·rw [Array.getElem?_eq_none (by omega)] at h; cases h
 ·rw [getG_ne e]; exact h
def r12 (n : Nat) (v4 v5 : Value) (qs : List LnQ) (ps : List Int) (q : LnQ) (a : Int) : Nat → World → Value → Prop
 | 0, _, v => v = v4
 | 1, _, v => v = .agg (lnF q).toArray
 | 2, w, v => ∃ g, v = .slice (some ⟨g, 0, none⟩) 1 1 ∧ Blk w g 38 (lnF q).toArray ∧ v4.ownBlock ≠ some g
 | 3, w, v => OwnK elP w (n + 10) v (qs ++ [q])
 | 4, _, v => v = v5
 | 5, _, v => v = .int .i64 a
 | 6, w, v => ∃ g, v = .slice (some ⟨g, 0, none⟩) 1 1 ∧ Blk w g 3 #[.int .i64 a] ∧ v5.ownBlock ≠ some g
 | 7, w, v => OwnI w (n + 10) v (ps ++ [a])
 | _, _, _ => True
structure K12 (n g8 : Nat) (W0 : World) (v4 v5 : Value) (qs : List LnQ) (q : LnQ) (a : Int) (W : World) : Prop where
 b2 : Blk W n 48 #[.pointer none]
 b3 : Blk W (n + 1) 40 #[.nilIface]
 b6 : Blk W (n + 4) 3 #[.int .i64 a]
 x8 : Blk W g8 38 (lnF q).toArray
 n8 : v4.ownBlock ≠ some g8
 h8 : n + 10 ≤ g8
 inn : ∀ p ∈ qs ++ [q], OwnP W (n + 10) (slQ p) p.1.rg ∧ LnOk p.1
 fr : Fr (paX n) W0 W
 lt4 : ∀ k, v4.ownBlock = some k → k < W.heap.size
 lt5 : ∀ k, v5.ownBlock = some k → k < W.heap.size
structure J12 (n g8 : Nat) (W0 : World) (v4 v5 : Value) (qs : List LnQ) (ps : List Int) (q : LnQ) (a : Int) (l : Array Bool) (W : World) : Prop where
 k : K12 n g8 W0 v4 v5 qs q a W
 A : l.getD 3 false = false → OwnK elP W (n + 10) v4 qs
 A4 : l.getD 8 false = false → Blk W (n + 2) 73 #[v4]
 A8 : l.getD 8 false = true → ∃ v, Blk W (n + 2) 73 #[v] ∧ OwnK elP W (n + 10) v (qs ++ [q])
 dA : l.getD 8 false = true → l.getD 3 false = true
 B : l.getD 7 false = false → OwnI W (n + 10) v5 ps
 B5 : l.getD 9 false = false → Blk W (n + 3) 24 #[v5]
 B9 : l.getD 9 false = true → ∃ v, Blk W (n + 3) 24 #[v] ∧ OwnI W (n + 10) v (ps ++ [a])
 dB : l.getD 9 false = true → l.getD 7 false = true
 d3 : l.getD 3 false = true → l.getD 0 false = true
 d7 : l.getD 7 false = true → l.getD 4 false = true
section
variable {n g8 : Nat} {W0 W W' : World} {v4 v5 : Value} {qs : List LnQ} {ps : List Int} {q : LnQ} {a : Int} {l : Array Bool} {r : Option Nat}
theorem K12.mv (h : K12 n g8 W0 v4 v5 qs q a W) (hg : W.grownBy W' r) (hr : ∀ k, r = some k → (paX n k ∧ k ≠ n ∧ k ≠ n + 1 ∧ k ≠ n + 4 ∧ k ≠ g8) ∧ ∃ t cs, Blk W k t cs ∧ 118 ≠ t) : K12 n g8 W0 v4 v5 qs q a W' :=
 ⟨h.b2.grown hg (fun e => (hr _ e.symm).1.2.1 rfl), h.b3.grown hg (fun e => (hr _ e.symm).1.2.2.1 rfl), h.b6.grown hg (fun e => (hr _ e.symm).1.2.2.2.1 rfl), h.x8.grown hg (fun e => (hr _ e.symm).1.2.2.2.2 rfl), h.n8, h.h8,
  fun p hp => ⟨OwnP.kept (h.inn p hp).1 hg (ownT_apart (h.inn p hp).1 fun k e => (hr k e).2), (h.inn p hp).2⟩, h.fr.grown hg (fun k e => (hr k e).1.1), fun k e => Nat.lt_of_lt_of_le (h.lt4 k e) hg.size, fun k e => Nat.lt_of_lt_of_le (h.lt5 k e) hg.size⟩
theorem J12.calm (h : J12 n g8 W0 v4 v5 qs ps q a l W) {i : Nat} (hi : i ≠ 3 ∧ i ≠ 7 ∧ i ≠ 8 ∧ i ≠ 9) (hb : Below W.heap.size W W') : J12 n g8 W0 v4 v5 qs ps q a (l.setIfInBounds i true) W' := by
 have hg := only_of_below hb none
 have e3 := getG_ne (listed := l) (i := i) (j := 3) hi.1
 have e7 := getG_ne (listed := l) (i := i) (j := 7) hi.2.1
 have e8 := getG_ne (listed := l) (i := i) (j := 8) hi.2.2.1
 have e9 := getG_ne (listed := l) (i := i) (j := 9) hi.2.2.2
 constructor
 ·exact h.k.mv hg (fun k e => by cases e)
 ·rw [e3]; exact fun e => (h.A e).below hb
 ·rw [e8]; exact fun e => (h.A4 e).below hb (h.A4 e).lt
 ·rw [e8]; exact fun e => by obtain ⟨v, h1, h2⟩ := h.A8 e; exact ⟨v, h1.below hb h1.lt, h2.below hb⟩
 ·rw [e8, e3]; exact h.dA
 ·rw [e7]; exact fun e => (h.B e).below hb
 ·rw [e9]; exact fun e => (h.B5 e).below hb (h.B5 e).lt
 ·rw [e9]; exact fun e => by obtain ⟨v, h1, h2⟩ := h.B9 e; exact ⟨v, h1.below hb h1.lt, h2.below hb⟩
 ·rw [e9, e7]; exact h.dB
 ·rw [e3]; exact fun e => getG_on (h.d3 e)
 ·rw [e7]; exact fun e => getG_on (h.d7 e)
theorem J12.out (h : J12 n g8 W0 v4 v5 qs ps q a l W) (h8 : l.getD 8 false = true) (h9 : l.getD 9 false = true) : ∃ v4' v5', PaM n W0 a v4' v5' (qs ++ [q]) (ps ++ [a]) W := by
 obtain ⟨v4', e4, eA⟩ := h.A8 h8
 obtain ⟨v5', e5, eB⟩ := h.B9 h9
 exact ⟨v4', v5', h.k.b2, h.k.b3, e4, e5, h.k.b6, eA, eB, h.k.inn, h.k.fr⟩
end
end Go.Proofs.YtmncoldaemcnlaaGreatDoor
namespace Go.Proofs.YtmncoldaemcnlaaGreatDoor
open Go.RowKit Go.Shelf
set_option maxRecDepth 100000
def r11 (n : Nat) (u : Value) (f1 a : Int) : Nat → World → Value → Prop
 | 0, _, v => v = u
 | 1, _, v => v = .int .i64 f1
 | 2, _, v => v = .int .i64 a
 | 3, _, v => v = .agg #[.int .i64 f1, .int .i64 a]
 | 4, w, v => ∃ g, v = .pointer (some ⟨g, 0, none⟩) ∧ n + 10 ≤ g ∧ Blk w g 139 #[.int .i64 f1, .int .i64 a]
 | 5, w, v => ∃ g, v = .iface 138 (.pointer (some ⟨g, 0, none⟩)) ∧ n + 10 ≤ g ∧ Blk w g 139 #[.int .i64 f1, .int .i64 a]
 | _, _, _ => True
def errU (u : Value) (f1 : Int) (W : World) : Prop := u = .iface 28 (.int .i64 f1) ∨ ∃ b p, u = .iface 138 (.pointer (some ⟨b, 0, none⟩)) ∧ Blk W b 139 #[.int .i64 f1, .int .i64 p]
structure J11 (n : Nat) (W0 : World) (u : Value) (f1 a : Int) (l : Array Bool) (W : World) : Prop where
 b2 : Blk W n 48 #[.pointer none]
 b6 : Blk W (n + 4) 3 #[.int .i64 a]
 n3 : l.getD 7 false = false → Blk W (n + 1) 40 #[.nilIface]
 y3 : l.getD 7 false = true → ∃ g, Blk W (n + 1) 40 #[.iface 138 (.pointer (some ⟨g, 0, none⟩))] ∧ n + 10 ≤ g ∧ Blk W g 139 #[.int .i64 f1, .int .i64 a]
 fr : Fr (paX n) W0 W
 big : n + 10 ≤ W.heap.size
 er : errU u f1 W
section
variable {n : Nat} {W0 W W' : World} {u : Value} {f1 a : Int} {l : Array Bool}
theorem J11.calm (h : J11 n W0 u f1 a l W) {i : Nat} (hi : i ≠ 7) (hb : Below W.heap.size W W') : J11 n W0 u f1 a (l.setIfInBounds i true) W' := by
 have e7 := getG_ne (listed := l) (i := i) (j := 7) hi
 refine ⟨h.b2.below hb h.b2.lt, h.b6.below hb h.b6.lt, ?_, ?_, h.fr.trans (.of_below hb (Nat.le_refl _)), Nat.le_trans h.big hb.size, ?_⟩
 ·rw [e7]; exact fun e => (h.n3 e).below hb (h.n3 e).lt
 ·rw [e7]; exact fun e => by obtain ⟨g, h1, h2, h3⟩ := h.y3 e; exact ⟨g, h1.below hb h1.lt, h2, h3.below hb h3.lt⟩
 ·rcases h.er with e | ⟨b, p, e, hk⟩
  ·exact .inl e
  ·exact .inr ⟨b, p, e, hk.below hb hk.lt⟩
theorem errU.set (h : errU u f1 W) {g : Nat} {t : TypeId} {cs : Array Value} (hk : Blk W g t cs) (hne : 139 ≠ t) (v : Value) : errU u f1 (W.setCell ⟨g, 0, none⟩ v) := by
 rcases h with e | ⟨b, p, e, hb⟩
 ·exact .inl e
 ·exact .inr ⟨b, p, e, hb.far (Blk.ne_ hb hk hne) v⟩
theorem J11.out {w0 : World} {t : ByteArray} {A : Nat} (h : J11 w0.heap.size W0 u f1 (A : Int) l W) (h7 : l.getD 7 false = true) (hb : Below w0.heap.size w0 W0) (h1 : 1 ≤ f1) (h2 : f1 ≤ 13) (hl : linesR (nlL t) 0 [] [] = .inl (f1, (A : Int))) : Fr (paX w0.heap.size) W0 W ∧ PaX w0 t W := by
 obtain ⟨g, e1, e2, e3⟩ := h.y3 h7
 refine ⟨h.fr, h.b2, ⟨_, (f1, (A : Int)), e1, .inr (.inr ⟨g, e3.lt, h1, h2, by show (0 : Int) ≤ (A : Int); omega, rfl, e3⟩), fun b e => ?_, by show f1 ≠ 0; omega, hl⟩, hb.trans (h.fr.to_below hb.size (fun k hk => by unfold paX; omega))⟩
 injection e with _ e
 injection e with e
 injection e with e
 injection e with e
 omega
end
end Go.Proofs.YtmncoldaemcnlaaGreatDoor
