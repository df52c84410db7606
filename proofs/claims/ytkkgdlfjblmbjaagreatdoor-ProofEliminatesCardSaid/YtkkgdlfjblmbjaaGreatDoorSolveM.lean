/-
  The memory of clause.Solve: the state, its trail, three rows of the call's own, and what may not change.
-/
import Derived.Test.YtkkgdlfjblmbjaaGreatDoorSolveA
namespace Go.Proofs.YtkkgdlfjblmbjaaGreatDoor
open Go.RowKit

section
variable {w w' : World} {base : Nat} {S T : Nat → Prop} {v : Value} {zs : List Int} {ls : List (List Int)}
theorem ownsRow_keep {e : TypeId} {size n : Nat} {xs : List Value} (h : w.ownsRow base e size v n xs) (hk : Keep S w w') (hS : ∀ k, v.ownBlock = some k → S k) : w'.ownsRow base e size v n xs := by
  refine ⟨h.1, ?_⟩
  rcases h.2 with h0 | ⟨g, cap, cur, hv, hg, hh, r⟩
  · exact .inl h0
  · exact .inr ⟨g, cap, cur, hv, hg, (hk.block g (hS g (by rw [hv]; rfl))).trans hh, r⟩
theorem Own.keepS (h : Own w base v zs) (hk : Keep S w w') (hS : ∀ k, v.ownBlock = some k → S k) : Own w' base v zs := ⟨ownsRow_keep h.1 hk hS, h.2⟩
theorem OwnC.keepS (h : OwnC w base T v ls) (hk : Keep S w w') (hS : ∀ k, v.ownBlock = some k → S k) (hT : ∀ i, T i → S i) : OwnC w' base T v ls := by
  obtain ⟨h1, vs, h2, h3⟩ := h
  exact ⟨h1, vs, ownsRow_keep h2 hk hS, h3.keep (hk.mono hT)⟩
end

section
variable {w0 w w' : World} {B0 : Nat} {S T : Nat → Prop} {b : Nat} {vt vd vp vl : Value} {tr ds : List Int} {pf al : List (List Int)}
theorem own_row {base : Nat} {v : Value} {zs : List Int} {row : Option Nat} (ho : Own w base v zs) (hg : w.grownBy w' row) (hne : ∀ k, v.ownBlock = some k → row ≠ some k) : Own w' base v zs := by
  refine ho.kept hg ?_
  cases hv : v.ownBlock with
  | none => exact .inl rfl
  | some k => exact .inr fun e => hne k hv e.symm
theorem ne_new {v v' u : Value} {k : Nat} (hlt : u.ownBlock = some k → k < w.heap.size) (hne : u.ownBlock = some k → v.ownBlock ≠ some k) (hor : v'.ownBlock = v.ownBlock ∨ v'.ownBlock = some w.heap.size) (hk : u.ownBlock = some k) : v'.ownBlock ≠ some k := by
  rcases hor with e | e
  · rw [e]; exact hne hk
  · rw [e]; intro e2; have := hlt hk; cases e2; omega

end
theorem intsP_of_ints {w : World} {B : Nat} {D : Nat → Prop} {A : Option Addr} {n : Nat} {zs : List Int} (h : Ints w B A n zs) (hD : 0 < n → ∀ ad, A = some ad → D ad.block) : IntsP w D A n zs :=
  ⟨h.1, h.2.1, h.2.2.1, fun hn => by
    obtain ⟨ad, e, _, hc⟩ := h.2.2.2.2 hn
    exact ⟨ad, e, hD hn ad e, hc⟩⟩

/-- A walk that waits: it goes on behind 'refine Held.go ?_'. -/
structure Held (p : Prop) : Prop where
  go : p
theorem appC1H (w : World) {ops : Array Oper} {rest : List Oper} {o : Oper} {a : Act} {Q : Exit → Act → World → Prop} (hgd : o.guard = none) (s x : Operand) (t : TypeId)
    (ho : o.op = .call { callee := .builtin .append, args := #[s, x], argTypes := #[t, t] }) (base : Nat) (S : Nat → Prop) (ht : Tryz.prog.underlying t = some (.slice 39))
    (v : Value) (ls : List (List Int)) (hs : a.eval s = v) (hown : OwnC w base S v ls) (g c : Nat) (hx : a.eval x = .slice (some ⟨g, 0, none⟩) 1 c) (A' : Option Addr) (n' c' : Nat) (zs : List Int) (hc : w.cell? ⟨g, 0, none⟩ = some (.slice A' n' c')) (hnc : n' ≤ c') (hz : IntsP w S A' n' zs)
    (hl : ls.length ≤ 1099511627) (hbase : base ≤ w.heap.size) (hS : ∀ i, S i → i < w.heap.size ∧ v.ownBlock ≠ some i)
    (h : ∀ v' w', OwnC w' base S v' (ls ++ [zs]) → w.grownBy w' v.ownBlock → (v'.ownBlock = v.ownBlock ∨ v'.ownBlock = some w.heap.size) → Held (wpList Tryz.prog ops Q rest (a.put o.dst v') w')) : wpList Tryz.prog ops Q (o :: rest) a w :=
  appC1S w hgd s x t ho base S ht v ls hs hown g c hx A' n' c' zs hc hnc hz hl hbase hS fun v' w' h1 h2 h3 => (h v' w' h1 h2 h3).go
theorem app1H (w : World) {ops : Array Oper} {rest : List Oper} {o : Oper} {a : Act} {Q : Exit → Act → World → Prop} (hgd : o.guard = none) (s x : Operand) (t : TypeId)
    (ho : o.op = .call { callee := .builtin .append, args := #[s, x], argTypes := #[t, t] }) (base : Nat) (ht : Tryz.prog.underlying t = some (.slice 3))
    (v : Value) (zs : List Int) (hs : a.eval s = v) (hown : Own w base v zs) (g c : Nat) (z : Int) (hx : a.eval x = .slice (some ⟨g, 0, none⟩) 1 c) (hc : w.cell? ⟨g, 0, none⟩ = some (.int .i64 z)) (hz : I64 z)
    (hl : zs.length ≤ 1099511627) (hbase : base ≤ w.heap.size)
    (h : ∀ v' w', Own w' base v' (zs ++ [z]) → w.grownBy w' v.ownBlock → (v'.ownBlock = v.ownBlock ∨ v'.ownBlock = some w.heap.size) → Held (wpList Tryz.prog ops Q rest (a.put o.dst v') w')) : wpList Tryz.prog ops Q (o :: rest) a w :=
  app1 w hgd s x t ho base ht v zs hs hown g c z hx hc hz (by omega) hbase fun v' w' h1 h2 h3 => (h v' w' h1 h2 h3).go
end Go.Proofs.YtkkgdlfjblmbjaaGreatDoor
