/-
  The reference's spread.
-/
import Derived.Test.YtkkgdlfjblmbjaaGreatDoorUnit
import Derived.WalkMore
import Derived.ScopeJumps
import Derived.Deep.RegionHeld3
import Derived.Deep.RegionLaw
namespace Go.Proofs.YtkkgdlfjblmbjaaGreatDoor
open Go.RowKit

theorem cons_of {α : Type} {us : List α} {n : Nat} (h : us.length = n + 1) : ∃ a r, us = a :: r ∧ r.length = n := by
  cases us with
  | nil => cases h
  | cons a r => exact ⟨a, r, rfl, by simpa using h⟩
theorem list63 (us : List Value) (h0 : us.length = 63) : ∃ u2 u3 u4 u5 u6 u7 u8 u9 u10 u11 u12 u13 u14 u15 u16 u17 u18 u19 u20 u21 u22 u23 u24 u25 u26 u27 u28 u29 u30 u31 u32 u33 u34 u35 u36 u37 u38 u39 u40 u41 u42 u43 u44 u45 u46 u47 u48 u49 u50 u51 u52 u53 u54 u55 u56 u57 u58 u59 u60 u61 u62 u63 u64 : Value, us = [u2, u3, u4, u5, u6, u7, u8, u9, u10, u11, u12, u13, u14, u15, u16, u17, u18, u19, u20, u21, u22, u23, u24, u25, u26, u27, u28, u29, u30, u31, u32, u33, u34, u35, u36, u37, u38, u39, u40, u41, u42, u43, u44, u45, u46, u47, u48, u49, u50, u51, u52, u53, u54, u55, u56, u57, u58, u59, u60, u61, u62, u63, u64] := by
  obtain ⟨u2, r1, rfl, h1⟩ := cons_of h0
  obtain ⟨u3, r2, rfl, h2⟩ := cons_of h1
  obtain ⟨u4, r3, rfl, h3⟩ := cons_of h2
  obtain ⟨u5, r4, rfl, h4⟩ := cons_of h3
  obtain ⟨u6, r5, rfl, h5⟩ := cons_of h4
  obtain ⟨u7, r6, rfl, h6⟩ := cons_of h5
  obtain ⟨u8, r7, rfl, h7⟩ := cons_of h6
  obtain ⟨u9, r8, rfl, h8⟩ := cons_of h7
  obtain ⟨u10, r9, rfl, h9⟩ := cons_of h8
  obtain ⟨u11, r10, rfl, h10⟩ := cons_of h9
  obtain ⟨u12, r11, rfl, h11⟩ := cons_of h10
  obtain ⟨u13, r12, rfl, h12⟩ := cons_of h11
  obtain ⟨u14, r13, rfl, h13⟩ := cons_of h12
  obtain ⟨u15, r14, rfl, h14⟩ := cons_of h13
  obtain ⟨u16, r15, rfl, h15⟩ := cons_of h14
  obtain ⟨u17, r16, rfl, h16⟩ := cons_of h15
  obtain ⟨u18, r17, rfl, h17⟩ := cons_of h16
  obtain ⟨u19, r18, rfl, h18⟩ := cons_of h17
  obtain ⟨u20, r19, rfl, h19⟩ := cons_of h18
  obtain ⟨u21, r20, rfl, h20⟩ := cons_of h19
  obtain ⟨u22, r21, rfl, h21⟩ := cons_of h20
  obtain ⟨u23, r22, rfl, h22⟩ := cons_of h21
  obtain ⟨u24, r23, rfl, h23⟩ := cons_of h22
  obtain ⟨u25, r24, rfl, h24⟩ := cons_of h23
  obtain ⟨u26, r25, rfl, h25⟩ := cons_of h24
  obtain ⟨u27, r26, rfl, h26⟩ := cons_of h25
  obtain ⟨u28, r27, rfl, h27⟩ := cons_of h26
  obtain ⟨u29, r28, rfl, h28⟩ := cons_of h27
  obtain ⟨u30, r29, rfl, h29⟩ := cons_of h28
  obtain ⟨u31, r30, rfl, h30⟩ := cons_of h29
  obtain ⟨u32, r31, rfl, h31⟩ := cons_of h30
  obtain ⟨u33, r32, rfl, h32⟩ := cons_of h31
  obtain ⟨u34, r33, rfl, h33⟩ := cons_of h32
  obtain ⟨u35, r34, rfl, h34⟩ := cons_of h33
  obtain ⟨u36, r35, rfl, h35⟩ := cons_of h34
  obtain ⟨u37, r36, rfl, h36⟩ := cons_of h35
  obtain ⟨u38, r37, rfl, h37⟩ := cons_of h36
  obtain ⟨u39, r38, rfl, h38⟩ := cons_of h37
  obtain ⟨u40, r39, rfl, h39⟩ := cons_of h38
  obtain ⟨u41, r40, rfl, h40⟩ := cons_of h39
  obtain ⟨u42, r41, rfl, h41⟩ := cons_of h40
  obtain ⟨u43, r42, rfl, h42⟩ := cons_of h41
  obtain ⟨u44, r43, rfl, h43⟩ := cons_of h42
  obtain ⟨u45, r44, rfl, h44⟩ := cons_of h43
  obtain ⟨u46, r45, rfl, h45⟩ := cons_of h44
  obtain ⟨u47, r46, rfl, h46⟩ := cons_of h45
  obtain ⟨u48, r47, rfl, h47⟩ := cons_of h46
  obtain ⟨u49, r48, rfl, h48⟩ := cons_of h47
  obtain ⟨u50, r49, rfl, h49⟩ := cons_of h48
  obtain ⟨u51, r50, rfl, h50⟩ := cons_of h49
  obtain ⟨u52, r51, rfl, h51⟩ := cons_of h50
  obtain ⟨u53, r52, rfl, h52⟩ := cons_of h51
  obtain ⟨u54, r53, rfl, h53⟩ := cons_of h52
  obtain ⟨u55, r54, rfl, h54⟩ := cons_of h53
  obtain ⟨u56, r55, rfl, h55⟩ := cons_of h54
  obtain ⟨u57, r56, rfl, h56⟩ := cons_of h55
  obtain ⟨u58, r57, rfl, h57⟩ := cons_of h56
  obtain ⟨u59, r58, rfl, h58⟩ := cons_of h57
  obtain ⟨u60, r59, rfl, h59⟩ := cons_of h58
  obtain ⟨u61, r60, rfl, h60⟩ := cons_of h59
  obtain ⟨u62, r61, rfl, h61⟩ := cons_of h60
  obtain ⟨u63, r62, rfl, h62⟩ := cons_of h61
  obtain ⟨u64, r63, rfl, h63⟩ := cons_of h62
  obtain rfl := List.eq_nil_of_length_eq_zero h63
  exact ⟨_, _, _, _, _, _, _, _, _, _, _, _, _, _, _, _, _, _, _, _, _, _, _, _, _, _, _, _, _, _, _, _, _, _, _, _, _, _, _, _, _, _, _, _, _, _, _, _, _, _, _, _, _, _, _, _, _, _, _, _, _, _, _, rfl⟩

theorem wp_scope_jumps1 {P : Program} {a : Act} {w : World} {Q : Exit → Act → World → Prop} {c rest : Code} (l : Nat) (J : Act → World → Prop) (μ : Act → World → Nat) (hf : findLabel c l = some rest)
    (pass : ∀ a w, J a w → rest.wp P (Exit.jump l (fun a' w' => J a' w' ∧ μ a' w' < μ a w) Q) a w)
    (first : (∀ a w, J a w → rest.wp P (Exit.jump l J Q) a w) → c.wp P (Exit.jump l J Q) a w) : (Code.scope c).wp P Q a w :=
  wp_scope_jumps l J μ hf (first fun a w h => Code.wp_mono (fun e a' w' he => by
    cases e <;> first | exact he | exact ⟨he.1, he.2.1⟩) (pass a w h)) pass

def lenOf : Value → Nat
  | .slice _ n _ => n
  | _ => 0

/-- What holds at the label: told reads tr', from which all that follows is R. -/
structure RefJ (ls : List (List Int)) (R : List Int × Int) (D : Nat → Prop) (w0 : World) (At : Option Addr) (nt ct : Nat) (tr : List Int) (w : World) : Prop where
  ints : Ints w w.heap.size At nt tr
  cap : nt ≤ ct
  cons : Cons tr
  bel : Below w0.heap.size w0 w
  sp : spreadR ls tr = R
  dm : 0 < nt → ∀ ad, At = some ad → D ad.block ∨ w0.heap.size ≤ ad.block
structure RefL (ls : List (List Int)) (tr : List Int) (w : World) (k : Nat) (wr : World) : Prop where
  bel : Below w.heap.size w wr
  sc : scanF tr (ls.drop k) k = scanF tr ls 0
structure RefI (tr zs : List Int) (w : World) (j : Nat) (hb : Bool) (left : List Int) (v : Value) (wr : World) : Prop where
  bel : Below w.heap.size w wr
  own : Own wr w.heap.size v left
  go : leftGo tr (hb, left) (zs.drop j) = leftF tr zs
  nd : left.Nodup
  ok : ∀ x ∈ left, litOk x
theorem RefI.len {tr zs : List Int} {w : World} {j : Nat} {hb : Bool} {left : List Int} {v : Value} {wr : World} (h : RefI tr zs w j hb left v wr) : left.length ≤ 49 := lits_len left h.nd h.ok

/-- The same; and where the row of what is told lies: in D, or it is new. -/
def RefSpreadPostD (w0 : World) (D : Nat → Prop) (R : List Int × Int) (e : Ending) (w' : World) : Prop := ∃ A n c, e = .returned (.tuple #[.slice A n c, .int .i64 R.2]) ∧ n ≤ c ∧ Ints w' w'.heap.size A n R.1 ∧ Cons R.1 ∧ Below w0.heap.size w0 w' ∧ (0 < n → ∀ ad, A = some ad → D ad.block ∨ w0.heap.size ≤ ad.block)
def RefSpreadPost (w0 : World) (R : List Int × Int) (e : Ending) (w' : World) : Prop := ∃ A n c, e = .returned (.tuple #[.slice A n c, .int .i64 R.2]) ∧ n ≤ c ∧ Ints w' w'.heap.size A n R.1 ∧ Cons R.1 ∧ Below w0.heap.size w0 w'

theorem own_cell {w : World} {base : Nat} {v : Value} {x : Int} (h : Own w base v [x]) : ∃ g cap, v = .slice (some ⟨g, 0, none⟩) 1 cap ∧ w.cell? ⟨g, 0, none⟩ = some (.int .i64 x) := by
  obtain ⟨g, cap, hv, _⟩ := h.1.form (by simp)
  subst hv
  have := h.1.cellAt 0 (by simp)
  exact ⟨g, cap, rfl, this⟩
theorem keepC {w w' : World} {a : Addr} {v : Value} (h : w.cell? a = some v) (hb : Below w.heap.size w w') : w'.cell? a = some v := (hb.cell (lt_of_cell h)).trans h
theorem ints_to {w w' : World} {B : Nat} {A : Option Addr} {n : Nat} {zs : List Int} (h : Ints w B A n zs) (hB : B ≤ w.heap.size) (hb : Below w.heap.size w w') : Ints w' w'.heap.size A n zs :=
  ((h.more hB).below hb).more hb.size
theorem own_lit {g n c k : Nat} (h : (Value.slice (some ⟨g, 0, none⟩) n c).ownBlock = some k) : g = k := by
  injection h
theorem lt_heap {w0 w : World} (h : Below w0.heap.size w0 w) : w0.heap.size ≤ w.heap.size := h.size

end Go.Proofs.YtkkgdlfjblmbjaaGreatDoor
