/-
  proof.Follow where the clauses or the steps are refused; rows of steps of the call's own.
-/
import Derived.Test.YtkkgdlfjblmbjaaDoorProFol
namespace Go.Proofs.YtkkgdlfjblmbjaaDoor
open Go.RowKit

set_option maxHeartbeats 2000000 in
theorem proFollow_bad (vars : Int) (A A2 : Option Addr) (n c n2 c2 : Nat) (ls : List (List Int)) (w : World) (hcl : Cls w w.heap.size A n ls) (hck : checkF vars ls ≠ (0, -1)) :
    Calls Tryd.prog 36 #[.int .i64 vars, .slice A n c, .slice A2 n2 c2] w (ProFolPost w ([], checkF vars ls)) := by
  have HK := hide (check_any vars A n c ls w hcl)
  have HCK := hide hck
  clear hcl hck
  go_enter Tryd.func36, Tryd.ntmps36
  go_wp2_with fail
  refine (HK.out).mono ?_
  rintro e w1 ⟨ve, rfl, hE, hb1⟩
  have HE := hide hE
  have HB1 := hide hb1
  clear hb1
  rcases hE with ⟨h, _⟩ | ⟨_, _, _, rfl⟩ | ⟨b, _, _, _, _, rfl, _⟩
  · exact absurd h HCK.out
  · go_wp2
    go_ret2
    exact ⟨none, 0, 0, _, rfl, clsNil' _ _, HE.out, HB1.out⟩
  · go_wp2
    go_ret2
    exact ⟨none, 0, 0, _, rfl, clsNil' _ _, HE.out, HB1.out⟩

set_option maxHeartbeats 2000000 in
theorem proFollow_many (vars : Int) (A A2 : Option Addr) (n c n2 c2 : Nat) (ls : List (List Int)) (w : World) (hcl : Cls w w.heap.size A n ls) (hck : checkF vars ls = (0, -1)) (hn2 : 1000 < n2) (hn : n2 ≤ maxLen) :
    Calls Tryd.prog 36 #[.int .i64 vars, .slice A n c, .slice A2 n2 c2] w (ProFolPost w ([], (4, -1))) := by
  simp only [maxLen] at hn
  have HK := hide (check_any vars A n c ls w hcl)
  rw [hck] at HK
  clear hcl hck
  go_enter Tryd.func36, Tryd.ntmps36
  go_wp2_with fail
  refine (HK.out).mono ?_
  rintro e w1 ⟨ve, rfl, hE, hb1⟩
  obtain rfl : ve = .nilIface := by
    rcases hE with ⟨_, h⟩ | ⟨_, h, _⟩ | ⟨b, _, h, _⟩
    · exact h
    · simp at h
    · simp at h
  clear hE
  have HB1 := hide hb1
  clear hb1
  go_wp2
  go_ret2
  exact ⟨none, 0, 0, _, rfl, clsNil' _ _, isErr_code (c := 4) (by omega) (by omega), HB1.out⟩

theorem stepInfo : (Tryd.prog.info? 72).map (fun i => (i.zero, i.size, i.bytes)) = some (some (.agg #[.int .i64 0, .int .i64 0, .int .i64 0]), 3, 24) := by kernel_rfl
def flat3 (ts : List Stp3) : List Value := ts.flatMap fun t => [.int .i64 t.1, .int .i64 t.2.1, .int .i64 t.2.2]
theorem flat3_at : ∀ (ts : List Stp3) (k : Nat), k < ts.length → (flat3 ts)[k * 3]? = some (.int .i64 (ts.getD k (0, 0, 0)).1) ∧ (flat3 ts)[k * 3 + 1]? = some (.int .i64 (ts.getD k (0, 0, 0)).2.1) ∧ (flat3 ts)[k * 3 + 2]? = some (.int .i64 (ts.getD k (0, 0, 0)).2.2) := by
  intro ts
  induction ts with
  | nil => intro k h; exact absurd h (Nat.not_lt_zero _)
  | cons t r ih =>
    intro k h
    cases k with
    | zero => exact ⟨rfl, rfl, rfl⟩
    | succ k =>
      have h1 := ih k (by simpa using h)
      rw [show (k + 1) * 3 = k * 3 + 3 by omega]
      exact h1
theorem flat3_snoc (ts : List Stp3) (t : Stp3) : flat3 (ts ++ [t]) = flat3 ts ++ [.int .i64 t.1, .int .i64 t.2.1, .int .i64 t.2.2] := by
  unfold flat3
  rw [List.flatMap_append]
  rfl
theorem one_news3 (w : World) (g : Nat) (u0 u1 u2 : Value) (h0 : w.cell? ⟨g, 0, none⟩ = some u0) (h1 : w.cell? ⟨g, 1, none⟩ = some u1) (h2 : w.cell? ⟨g, 2, none⟩ = some u2) : Reads w (g + 1) 3 (some ⟨g, 0, none⟩) 1 [u0, u1, u2] := by
  refine ⟨rfl, fun _ => ⟨_, rfl, Nat.lt_succ_self _, fun j x hx => ?_⟩⟩
  match j, hx with
  | 0, hx => simp at hx; subst hx; simpa [Addr.add] using h0
  | 1, hx => simp at hx; subst hx; simpa [Addr.add] using h1
  | 2, hx => simp at hx; subst hx; simpa [Addr.add] using h2
theorem stpP_of_own {w : World} {base n c : Nat} {A : Option Addr} {ts : List Stp3} (hl : ts.length = n) (hn : n ≤ maxLen) (hi : ∀ t ∈ ts, I64 t.1 ∧ I64 t.2.1 ∧ I64 t.2.2) (h : w.ownsRow base 72 3 (.slice A n c) n (flat3 ts)) : StpP w (· < w.heap.size) A n ts := by
  refine ⟨hl, hn, hi, fun hn0 => ?_⟩
  obtain ⟨ad, e, hb, hc⟩ := (Reads.of_own h).2 hn0
  refine ⟨ad, e, hb, fun k hk => ?_⟩
  obtain ⟨q0, q1, q2⟩ := flat3_at ts k (by omega)
  exact ⟨hc _ _ q0, hc _ _ q1, hc _ _ q2⟩

/-- append of one step in a region that draws its order. -/
theorem stepT (w : World) {ops : Array Oper} {o : Oper} {a : Act} {K : Act → World → Prop} {Q : Exit → Act → World → Prop} {E : Prop} (hgd : o.guard = none) (s x : Operand) (t : TypeId)
    (ho : o.op = .call { callee := .builtin .append, args := #[s, x], argTypes := #[t, t] }) (base : Nat) (ht : Tryd.prog.underlying t = some (.slice 72))
    (v : Value) (ts : List Stp3) (k : Nat) (hs : a.eval s = v) (hown : w.ownsRow base 72 3 v k (flat3 (ts.take k))) (g c : Nat) (hx : a.eval x = .slice (some ⟨g, 0, none⟩) 1 c) (hk : k < ts.length)
    (h0 : w.cell? ⟨g, 0, none⟩ = some (.int .i64 (ts.getD k (0, 0, 0)).1)) (h1 : w.cell? ⟨g, 1, none⟩ = some (.int .i64 (ts.getD k (0, 0, 0)).2.1)) (h2 : w.cell? ⟨g, 2, none⟩ = some (.int .i64 (ts.getD k (0, 0, 0)).2.2))
    (hl : k ≤ 1000000) (hbase : base ≤ w.heap.size)
    (h : ∀ v' w', w'.ownsRow base 72 3 v' (k + 1) (flat3 (ts.take (k + 1))) → w.grownBy w' v.ownBlock → (v'.ownBlock = v.ownBlock ∨ v'.ownBlock = some w.heap.size) → K (a.put o.dst v') w') :
    if Region.wanted o (yielded ops a.tmps) = true then Oper.wp Tryd.prog o a w K Q else E := by
  obtain ⟨i0, hi, hz0, hz1, hz2⟩ := info_parts stepInfo
  refine step_append_any w hgd s x t ho base 72 i0 _ 3 24 ht hi hz0 hz1 hz2 rfl (by decide) v k _ hs hown (g + 1) (some ⟨g, 0, none⟩) 1 c _ hx (one_news3 w g _ _ _ h0 h1 h2) (by simp; exact ⟨rfl, rfl, rfl⟩) (by simp only [maxLen]; omega) (by omega) hbase ?_
  intro v' w' ho' hg' hor
  refine h v' w' ?_ hg' hor
  rw [take_snoc ts k (0, 0, 0) hk, flat3_snoc]
  exact ho'
/-- Ahead of step k of the copying. -/
structure StI (w0 : World) (ts : List Stp3) (k : Nat) (v : Value) (w : World) : Prop where
  bel : Below w0.heap.size w0 w
  own : w.ownsRow w0.heap.size 72 3 v k (flat3 (ts.take k))
end Go.Proofs.YtkkgdlfjblmbjaaDoor
