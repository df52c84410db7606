/-
  The law ArenaPlays: Reach and Sweep of both arenas, of a row of two.
-/
import Derived.Test.YtfbhmkpihmcegaaDoorPlays
namespace Go.Proofs.YtfbhmkpihmcegaaDoor
open Go.RowKit Go.Maps

theorem rowI_two {w : World} {g : Nat} {x y : Int} (h : Blk w g 3 #[.int .i64 x, .int .i64 y]) : RowI w (some ⟨g, 0, none⟩) 2 [x, y] :=
  ⟨rfl, (blk_reads (zs := [x, y]) h).more h.lt⟩
theorem two_in {x y : Int} (hx : I64 x) (hy : I64 y) : ∀ z ∈ [x, y], I64 z := by
  intro z hz
  rcases List.mem_cons.1 hz with e | h
  · rw [e]; exact hx
  · rw [List.mem_singleton.1 h]; exact hy
/-- What the law's regions keep: all but the arenas. -/
def PlS (B gn gu gt R : Nat) (k : Nat) : Prop := arB B gn gu gt k ∨ k = R
section
variable {w W : World} {B gn gu gt bR R gm : Nat} {A1 A2 : Ar}
/-- Reach's answer: a row that is there to be read. -/
def ReP (W : World) (L : List Int) (e : Ending) (W' : World) : Prop := ∃ A c, e = .returned (.slice A L.length c) ∧ RowI W' A L.length L ∧ Below W.heap.size W W'
theorem ReP.of {W : World} {L : List Int} {e : Ending} {W' : World} (h : OwnPost W L e W') : ReP W L e W' := by
  obtain ⟨v, rfl, ho, hb⟩ := h
  obtain ⟨A, c, rfl⟩ := ho.len
  exact ⟨A, c, rfl, ho.row, hb⟩
theorem playReach (x y : Int) (g : Nat) (W : World) (hP : PlayI w B gn gu gt bR R gm A1 A2 W) (hx : I64 x) (hy : I64 y) (hg : Blk W g 3 #[.int .i64 x, .int .i64 y]) :
    Calls Tryd.prog 13 #[.pointer (some ⟨B, 0, none⟩), .slice (some ⟨g, 0, none⟩) 2 2] W (ReP W (reachL A1 [x, y])) :=
  (arReach_any B gn gu gt A1 _ 2 2 [x, y] W hP.ar (rowI_two hg) (two_in hx hy) (by decide) (fun e => by cases e)).mono fun _ _ h => .of h
theorem playReachR (x y : Int) (g : Nat) (W : World) (hP : PlayI w B gn gu gt bR R gm A1 A2 W) (hx : I64 x) (hy : I64 y) (hg : Blk W g 3 #[.int .i64 x, .int .i64 y]) :
    Calls Tryd.prog 14 #[.pointer (some ⟨R, 0, none⟩), .slice (some ⟨g, 0, none⟩) 2 2] W (ReP W (reachL A2 [x, y])) :=
  (rfReach_any R gm A2 _ 2 2 [x, y] W hP.rf (rowI_two hg) (two_in hx hy) (by decide)).mono fun _ _ h => .of h
/-- Sweep's answer. -/
def SwP (w W : World) (B gn gu gt bR R gm : Nat) (A1 A2 : Ar) (l : List Int) (e : Ending) (W' : World) : Prop :=
  e = .returned (.int .i64 ((cntA A1 : Int) - ((reachL A1 l).length : Int))) ∧ PlayI w B gn gu gt bR R gm (sweepA A1 l) A2 W' ∧ Fr (arB B gn gu gt) W W'
def SwR (w W : World) (B gn gu gt bR R : Nat) (A1 A2 : Ar) (l : List Int) (e : Ending) (W' : World) : Prop :=
  e = .returned (.int .i64 ((cntA A2 : Int) - ((reachL A2 l).length : Int))) ∧ ∃ gm', PlayI w B gn gu gt bR R gm' A1 (sweepA A2 l) W' ∧ Fr (fun k => k = R) W W'
theorem playSweep (x y : Int) (g : Nat) (W : World) (hP : PlayI w B gn gu gt bR R gm A1 A2 W) (hx : I64 x) (hy : I64 y) (hg : Blk W g 3 #[.int .i64 x, .int .i64 y]) :
    Calls Tryd.prog 15 #[.pointer (some ⟨B, 0, none⟩), .slice (some ⟨g, 0, none⟩) 2 2] W (SwP w W B gn gu gt bR R gm A1 A2 [x, y]) :=
  (arSweep_any B gn gu gt A1 _ 2 2 [x, y] W hP.ar (rowI_two hg) (two_in hx hy) (by decide) (fun e => by cases e)).mono
    fun _ _ ⟨e, ha, hf⟩ => ⟨e, hP.prog ha hf, hf⟩
theorem playSweepR (x y : Int) (g : Nat) (W : World) (hP : PlayI w B gn gu gt bR R gm A1 A2 W) (hx : I64 x) (hy : I64 y) (hg : Blk W g 3 #[.int .i64 x, .int .i64 y]) :
    Calls Tryd.prog 16 #[.pointer (some ⟨R, 0, none⟩), .slice (some ⟨g, 0, none⟩) 2 2] W (SwR w W B gn gu gt bR R A1 A2 [x, y]) :=
  (rfSweep_any R gm A2 _ 2 2 [x, y] W hP.rf (rowI_two hg) (two_in hx hy) (by decide)).mono
    fun _ _ ⟨e, gm', hr, hlt, hf⟩ => ⟨e, gm', hP.ref hr (hf.to_below (Nat.le_trans hP.sR (Nat.le_of_lt hP.rf.kR.lt)) (fun k hk e => by have := hP.sR; omega)) (Nat.le_trans (Nat.le_trans hP.sR (Nat.le_of_lt hP.rf.kR.lt)) hlt), hf⟩
theorem PlayI.alloc (h : PlayI w B gn gu gt bR R gm A1 A2 W) (o : Obj) : PlayI w B gn gu gt bR R gm A1 A2 (W.alloc o) := h.below ((Below.refl _ _).alloc (Nat.le_refl _) o)
theorem PlayI.drew (h : PlayI w B gn gu gt bR R gm A1 A2 W) : PlayI w B gn gu gt bR R gm A1 A2 W.drew := h.below (Below.refl _ _).drew
end
theorem blk_frS {S : Nat → Prop} {wa W W' : World} {g : Nat} {t : TypeId} {cs : Array Value} (hlow : ∀ k, S k → k < wa.heap.size) (hg : wa.heap.size ≤ g) (h : Blk W g t cs) (hf : Fr S W W') : Blk W' g t cs := h.fr hf (fun hs => absurd (hlow g hs) (by omega))
theorem blk_fr0 {S : Nat → Prop} {wa W W' : World} {t : TypeId} {cs : Array Value} (hlow : ∀ k, S k → k < wa.heap.size) (h : Blk W wa.heap.size t cs) (hf : Fr S W W') : Blk W' wa.heap.size t cs := blk_frS hlow (Nat.le_refl _) h hf
theorem blk_fr1 {S : Nat → Prop} {wa W W' : World} {t : TypeId} {cs : Array Value} (hlow : ∀ k, S k → k < wa.heap.size) (h : Blk W (wa.heap.size + 1) t cs) (hf : Fr S W W') : Blk W' (wa.heap.size + 1) t cs := blk_frS hlow (Nat.le_succ _) h hf
theorem two_fr {S S' : Nat → Prop} {wA W W' : World} {lb : Nat} {x y : Int} (h1 : W.cell? ⟨lb, 2, none⟩ = some (.int .i64 x)) (h2 : W.cell? ⟨lb, 3, none⟩ = some (.int .i64 y)) (hl : wA.heap.size ≤ W.heap.size) (hlb : lb < wA.heap.size) (hn : ¬ S' lb) (hf : Fr S' W W') :
    W'.cell? ⟨lb, 2, none⟩ = some (.int .i64 x) ∧ W'.cell? ⟨lb, 3, none⟩ = some (.int .i64 y) ∧ wA.heap.size ≤ W'.heap.size :=
  ⟨(hf.cell (p := ⟨lb, 2, none⟩) (Nat.lt_of_lt_of_le hlb hl) hn).trans h1, (hf.cell (p := ⟨lb, 3, none⟩) (Nat.lt_of_lt_of_le hlb hl) hn).trans h2, Nat.le_trans hl hf.size⟩
theorem two_alloc {wA W : World} {lb : Nat} {x y : Int} (h1 : W.cell? ⟨lb, 2, none⟩ = some (.int .i64 x)) (h2 : W.cell? ⟨lb, 3, none⟩ = some (.int .i64 y)) (hl : wA.heap.size ≤ W.heap.size) (hlb : lb < wA.heap.size) (o : Obj) :
    (W.alloc o).cell? ⟨lb, 2, none⟩ = some (.int .i64 x) ∧ (W.alloc o).cell? ⟨lb, 3, none⟩ = some (.int .i64 y) ∧ wA.heap.size ≤ (W.alloc o).heap.size :=
  two_fr (S := fun _ => False) (S' := fun _ => False) h1 h2 hl hlb (fun h => h) ((Fr.refl _ W).alloc o)
theorem two_below {wA W W' : World} {lb : Nat} {x y : Int} (h1 : W.cell? ⟨lb, 2, none⟩ = some (.int .i64 x)) (h2 : W.cell? ⟨lb, 3, none⟩ = some (.int .i64 y)) (hl : wA.heap.size ≤ W.heap.size) (hlb : lb < wA.heap.size) (hb : Below W.heap.size W W') :
    W'.cell? ⟨lb, 2, none⟩ = some (.int .i64 x) ∧ W'.cell? ⟨lb, 3, none⟩ = some (.int .i64 y) ∧ wA.heap.size ≤ W'.heap.size :=
  two_fr (S := fun _ => False) (S' := fun _ => False) h1 h2 hl hlb (fun h => h) (.of_below hb (Nat.le_refl _))
theorem blk_below {W W' : World} {g : Nat} {t : TypeId} {cs : Array Value} (h : Blk W g t cs) (hb : Below W.heap.size W W') : Blk W' g t cs := (hb.block g h.lt).trans h
theorem blk_drew {W : World} {g : Nat} {t : TypeId} {cs : Array Value} (h : Blk W g t cs) : Blk W.drew g t cs := blk_below h (Below.refl _ _).drew
theorem blk_alloc {W : World} {g : Nat} {t : TypeId} {cs : Array Value} (o : Obj) (h : Blk W g t cs) : Blk (W.alloc o) g t cs := blk_below h ((Below.refl _ _).alloc (Nat.le_refl _) o)
theorem blk_is {W : World} {g : Nat} {t : TypeId} {cs : Array Value} (h : g = W.heap.size) : Blk (W.alloc (.cells cs t)) g t cs := by subst h; exact Blk.new _ _ _
theorem PlayI.on {w W W' : World} {B gn gu gt bR R gm : Nat} {A1 A2 : Ar} (h : PlayI w B gn gu gt bR R gm A1 A2 W) (hb : Below W.heap.size W W') : PlayI w B gn gu gt bR R gm A1 A2 W' := h.below hb
theorem same_below {W W' : World} (h : ∃ q, W' = W.drewN q) : Below W.heap.size W W' := by
  obtain ⟨q, rfl⟩ := h
  exact below_drewN (Below.refl _ _) _
theorem rowI_alloc {W : World} {A : Option Addr} {n : Nat} {zs : List Int} (h : RowI W A n zs) (o : Obj) : RowI (W.alloc o) A n zs := h.below ((Below.refl _ _).alloc (Nat.le_refl _) o)
theorem rowI_drew {W : World} {A : Option Addr} {n : Nat} {zs : List Int} (h : RowI W A n zs) : RowI W.drew A n zs := h.below (Below.refl _ _).drew
theorem PlayI.lenN {w W : World} {B gn gu gt bR R gm : Nat} {A1 A2 : Ar} (h : PlayI w B gn gu gt bR R gm A1 A2 W) (q : Nat) :
    Calls Tryd.prog 22 #[.pointer (some ⟨B, 0, none⟩)] (W.drewN q) (fun e w' => e = .returned (.int .i64 (cntA A1 : Int)) ∧ W.drewN q = w') :=
  arLen_any B gn gu gt A1 (W.drewN q) (h.ar.keep (fun _ _ => rfl))
section
variable {w W W' wa : World} {B gn gu gt bR R gm lb : Nat} {A1 A2 : Ar} {x y : Int}
theorem two_belowP (hlb : lb < wa.heap.size) (h : W.cell? ⟨lb, 2, none⟩ = some (.int .i64 x) ∧ W.cell? ⟨lb, 3, none⟩ = some (.int .i64 y) ∧ wa.heap.size ≤ W.heap.size ∧ PlayI w B gn gu gt bR R gm A1 A2 W) (hb : Below W.heap.size W W') :
    W'.cell? ⟨lb, 2, none⟩ = some (.int .i64 x) ∧ W'.cell? ⟨lb, 3, none⟩ = some (.int .i64 y) ∧ wa.heap.size ≤ W'.heap.size ∧ PlayI w B gn gu gt bR R gm A1 A2 W' :=
  have t := two_below h.1 h.2.1 h.2.2.1 hlb hb
  ⟨t.1, t.2.1, t.2.2, h.2.2.2.below hb⟩
theorem two_allocP (hlb : lb < wa.heap.size) (h : W.cell? ⟨lb, 2, none⟩ = some (.int .i64 x) ∧ W.cell? ⟨lb, 3, none⟩ = some (.int .i64 y) ∧ wa.heap.size ≤ W.heap.size ∧ PlayI w B gn gu gt bR R gm A1 A2 W) (o : Obj) :
    (W.alloc o).cell? ⟨lb, 2, none⟩ = some (.int .i64 x) ∧ (W.alloc o).cell? ⟨lb, 3, none⟩ = some (.int .i64 y) ∧ wa.heap.size ≤ (W.alloc o).heap.size ∧ PlayI w B gn gu gt bR R gm A1 A2 (W.alloc o) :=
  two_belowP hlb h ((Below.refl _ _).alloc (Nat.le_refl _) o)
theorem two_drewP (hlb : lb < wa.heap.size) (h1 : wa.cell? ⟨lb, 2, none⟩ = some (.int .i64 x)) (h2 : wa.cell? ⟨lb, 3, none⟩ = some (.int .i64 y)) (hP : PlayI w B gn gu gt bR R gm A1 A2 wa) :
    wa.drew.cell? ⟨lb, 2, none⟩ = some (.int .i64 x) ∧ wa.drew.cell? ⟨lb, 3, none⟩ = some (.int .i64 y) ∧ wa.heap.size ≤ wa.drew.heap.size ∧ PlayI w B gn gu gt bR R gm A1 A2 wa.drew :=
  two_belowP hlb ⟨h1, h2, Nat.le_refl _, hP⟩ (Below.refl _ _).drew
end
/-- Get's answer, in one form. -/
theorem getNd (B gn gu gt : Nat) (A : Ar) (x : Int) (w : World) (h : ArM w B gn gu gt A) (hx : I64 x) :
    Calls Tryd.prog 17 #[.pointer (some ⟨B, 0, none⟩), .int .i64 x] w
      (fun e w' => e = .returned (.tuple #[.agg #[.int .i64 ((gotA A x).getD nd0).var, .int .i64 ((gotA A x).getD nd0).low, .int .i64 ((gotA A x).getD nd0).high], .bool (gotA A x).isSome]) ∧ Below w.heap.size w w') := by
  cases hg : gotA A x with
  | none => exact arGet_none B gn gu gt A x w h hx hg
  | some n => exact arGet_some B gn gu gt A x n w h hx hg
theorem MapN.lookRun {w : World} {b m : Nat} {f : Int → Option Nd} (h : MapN w b f m) (x : Int) (hi : I64 x) :
    (Instr.lookup 31 (.map (some b)) (.int .i64 x) true).run Tryd.prog w = .ok (.tuple #[.agg #[.int .i64 ((f x).getD nd0).var, .int .i64 ((f x).getD nd0).low, .int .i64 ((f x).getD nd0).high], .bool (f x).isSome]) w := by
  obtain ⟨D, h1, h2⟩ := h
  obtain ⟨v, ps, hrun, hv⟩ := h1.look_ok keyI Tryd.underlying31 (zeroNode w) (show nodeElem _ = some (nodeD nd0, []) from rfl) (keyL_of hi)
  obtain ⟨n, rfl, e⟩ := nodeElem_inv hv
  have e1 := congrArg Prod.fst e
  simp only at e1
  rw [h2.val hi] at e1
  rw [← nodeD_inj e1, h2.has x hi] at hrun
  exact hrun
theorem PlayI.look {w W : World} {B gn gu gt bR R gm : Nat} {A1 A2 : Ar} (h : PlayI w B gn gu gt bR R gm A1 A2 W) (x : Int) (hi : I64 x) :
    (Instr.lookup 31 (.map (some gm)) (.int .i64 x) true).run Tryd.prog W = .ok (.tuple #[.agg #[.int .i64 ((gotA A2 x).getD nd0).var, .int .i64 ((gotA A2 x).getD nd0).low, .int .i64 ((gotA A2 x).getD nd0).high], .bool (gotA A2 x).isSome]) W :=
  h.rf.map.lookRun x hi
theorem two_frS {S' : Nat → Prop} {wA W W' : World} {lb : Nat} {x y : Int} (hf : Fr S' W W') (h : W.cell? ⟨lb, 2, none⟩ = some (.int .i64 x) ∧ W.cell? ⟨lb, 3, none⟩ = some (.int .i64 y) ∧ wA.heap.size ≤ W.heap.size) (hlb : lb < wA.heap.size) (hn : ¬ S' lb) :
    W'.cell? ⟨lb, 2, none⟩ = some (.int .i64 x) ∧ W'.cell? ⟨lb, 3, none⟩ = some (.int .i64 y) ∧ wA.heap.size ≤ W'.heap.size := two_fr (S := S') h.1 h.2.1 h.2.2 hlb hn hf
theorem two_allocS {wA W : World} {lb : Nat} {x y : Int} (h : W.cell? ⟨lb, 2, none⟩ = some (.int .i64 x) ∧ W.cell? ⟨lb, 3, none⟩ = some (.int .i64 y) ∧ wA.heap.size ≤ W.heap.size) (hlb : lb < wA.heap.size) (o : Obj) :
    (W.alloc o).cell? ⟨lb, 2, none⟩ = some (.int .i64 x) ∧ (W.alloc o).cell? ⟨lb, 3, none⟩ = some (.int .i64 y) ∧ wA.heap.size ≤ (W.alloc o).heap.size := two_alloc h.1 h.2.1 h.2.2 hlb o
theorem two_alD {wA W : World} {lb : Nat} {x y : Int} {o : Obj} (hlb : lb < wA.heap.size) (h : W.drew.cell? ⟨lb, 2, none⟩ = some (.int .i64 x) ∧ W.drew.cell? ⟨lb, 3, none⟩ = some (.int .i64 y) ∧ wA.heap.size ≤ W.drew.heap.size) :
    (W.alloc o).drew.cell? ⟨lb, 2, none⟩ = some (.int .i64 x) ∧ (W.alloc o).drew.cell? ⟨lb, 3, none⟩ = some (.int .i64 y) ∧ wA.heap.size ≤ (W.alloc o).drew.heap.size := two_alloc (W := W.drew) h.1 h.2.1 h.2.2 hlb o
end Go.Proofs.YtfbhmkpihmcegaaDoor
