/-
  A part of the proof: StPl. Conditions: none.
-/
import Derived.Test.YtmncoldaemcnlaaGreatDoorCmPaR11
namespace Go
open Go.RowKit
open Go.Proofs.YtmncoldaemcnlaaGreatDoor
section
variable {P : Program} {ops : Array Oper} {R : Nat → World → Value → Prop} {J : Array Bool → World → Prop} {a0 : Act} {Q : Exit → Act → World → Prop}
theorem oper_wide {m : Nat} {o : Oper} {a : Act} {w : World} {K : Act → World → Prop} (hd : ∀ c, o.op ≠ .defer c) (h : Oper.wp P o a w K Q) : Oper.wpIn Fence.wide m P o a w K Q := by
 refine ⟨fun _ _ => trivial, ?_⟩
 rw [Oper.semAt_eq _ _ _ hd]
 unfold Oper.wp at h
 generalize (execOp a.eval o).run P w = r at h ⊢
 cases r with
 | ok x w' =>
  cases x with
  | value v => exact h
  | skip => exact h
  | defer d => exact h
  | enter f args => exact ⟨fun h9 => Bool.noConfusion (show (none : Option Nat).isSome = true from h9), callsIn_wide.2 h⟩
  | row s args => exact ⟨fun h9 => Bool.noConfusion (show (none : Option Nat).isSome = true from h9), fun c cs _ => let ⟨v, w', r, s⟩ := h c cs; ⟨v, w', r, stepsIn_wide.2 s⟩⟩
  | _ => exact h.elim
 | halt x w' => cases x <;> exact h
theorem wp_region_stG {id : Nat} {w0 : World} (N : Nat) (hm : P.follows .mixedOrders = true) (hN : a0.tmps.size = N) (hd : decide (ops.toList.filterMap (·.dst)).Nodup = true)
  (hs : (ops.toList.all fun o => decide (o.dst.getD 0 < N)) = true) (hac : acyc ops.toList = true) (h0 : J (Array.replicate ops.size false) w0.drew) (hnd : ∀ (i : Nat) (o : Oper), ops[i]? = some o → ∀ c, o.op ≠ .defer c)
  (hstep : ∀ (i : Nat) (o : Oper) (listed : Array Bool) (a : Act) (w : World), ops[i]? = some o → listed.size = ops.size → i ∈ Region.ready .any ops listed → StG ops R J a0 listed a w → Region.wanted o (yielded ops a.tmps) = true ∧
   o.wp P a w (fun a' w' => ∃ v, a' = a.put o.dst v ∧ R i w' v ∧ (∀ k u, listed.getD k false = true → R k w u → R k w' u) ∧ J (listed.setIfInBounds i true) w') Q)
  (hend : ∀ listed a w, (∀ i, i < ops.size → listed.getD i false = true) → StG ops R J a0 listed a w → Q .normal a w) : (Code.region id ops true).wp P Q a0 w0 :=
 (wpIn_wide (n := 4)).1 (wpIn_region_stG N hm hN hd hs hac h0 (fun i o listed a w ho hl hr hI => ⟨(hstep i o listed a w ho hl hr hI).1, oper_wide (hnd i o ho) (hstep i o listed a w ho hl hr hI).2⟩) hend)
end
end Go
