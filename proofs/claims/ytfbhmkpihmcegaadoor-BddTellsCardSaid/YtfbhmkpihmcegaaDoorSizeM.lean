/-
  The document's maps of what has been seen: keyed by the texts of tables (1 and 0). A level's tables: how many, how long. No program in sight. The two tables that come of setting a variable, as the document's Size makes them.
-/
import Derived.Test.YtfbhmkpihmcegaaDoorBddMapH
import Derived.Test.YtfbhmkpihmcegaaDoorSizePure
import Derived.Test.YtfbhmkpihmcegaaDoorBddTabs
namespace Go.Proofs.YtfbhmkpihmcegaaDoor
open Go.RowKit Go.Maps

def digB (b : Bool) : UInt8 := if b then 49 else 48
/-- A table's text. -/
def strT (t : List Bool) : ByteArray := ⟨(t.map digB).toArray⟩
def litT (t : List Bool) : Lit := .string (t.map digB)
def keyT (t : List Bool) : Value := .string (strT t)
def okT (t : List Bool) : Prop := t.length ≤ 64
theorem digB_inj {a b : Bool} (h : digB a = digB b) : a = b := by
  cases a <;> cases b <;> first | rfl | exact absurd h (by decide)
theorem digs_inj : ∀ t u : List Bool, t.map digB = u.map digB → t = u
  | [], [], _ => rfl
  | [], b :: u, h => by cases h
  | a :: t, [], h => by cases h
  | a :: t, b :: u, h => by
    rw [List.map_cons, List.map_cons] at h
    obtain ⟨h1, h2⟩ := List.cons.inj h
    rw [digB_inj h1, digs_inj t u h2]
theorem keyS_tab : KeyS 9 (List Bool) keyT litT okT :=
  ⟨string_keyed Tryd.underlying9, fun t ht => by
    have h := _root_.Go.WideMaps.keyOf_string_mk (P := Tryd.prog) Tryd.underlying9 (s := strT t) (by unfold okT at ht; show (t.map digB).toArray.size ≤ maxLen; simp [maxLen]; omega)
    rw [show (strT t).data.toList = t.map digB from rfl] at h
    exact h, fun t u e => by
    injection e with e
    have h := congrArg (fun s : ByteArray => s.data.toList) e
    exact digs_inj t u h, fun _ _ => trivial⟩
structure ReadsSeen (D : DataW Value) (f : List Bool → Bool) : Prop where
  has : ∀ x, okT x → Maps.has D (litT x) = f x
  at_ : ∀ x, okT x → f x = true → ∀ d, D.atKey (litT x) d = .held (.bool true)
  isMap : IsMap D
def MapSeen (w : World) (b : Nat) (f : List Bool → Bool) (m : Nat) : Prop := ∃ D, w.ownsMap Tryd.prog 9 heldR b m D ∧ ReadsSeen D f
section
variable {w w' : World} {b m : Nat} {f : List Bool → Bool}
theorem mapSeen_made (w : World) : MapSeen (w.alloc (.map #[] 0)) w.heap.size (fun _ => false) 0 :=
  ⟨_, World.ownsMap_made _ _ _ _, ⟨fun _ _ => rfl, fun _ _ e => (by cases e), isMap_empty⟩⟩
theorem MapSeen.same (h : MapSeen w b f m) (hb : w'.heap[b]? = w.heap[b]?) : MapSeen w' b f m := by
  obtain ⟨D, ⟨es, clock, h1, h2⟩, h3⟩ := h
  exact ⟨D, ⟨es, clock, hb.trans h1, h2⟩, h3⟩
theorem MapSeen.lt (h : MapSeen w b f m) : b < w.heap.size := by
  obtain ⟨D, h1, _⟩ := h
  exact h1.lt
theorem MapSeen.below (h : MapSeen w b f m) (hb : Below w.heap.size w w') : MapSeen w' b f m := h.same (hb.block b h.lt)
theorem ReadsSeen.put {D : DataW Value} (h : ReadsSeen D f) {x : List Bool} (hx : okT x) : ReadsSeen (D.put (litT x) (.held (.bool true))) (fun y => if y = x then true else f y) := by
  refine ⟨fun y hy => ?_, fun y hy e d => ?_, h.isMap.put _ _⟩
  · by_cases e : y = x
    · subst e
      rw [if_pos rfl]
      exact has_put_same h.isMap (keyS_tab.isKey y hy) _
    · skip
      rw [if_neg e, has_put_other (keyS_tab.ne hy hx e)]
      exact h.has y hy
  · by_cases e' : y = x
    · subst e'
      exact atKey_put_same h.isMap (keyS_tab.isKey y hy) _ _
    · skip
      rw [if_neg e'] at e
      rw [atKey_put_other (keyS_tab.ne hy hx e')]
      exact h.at_ y hy e d
/-- 'm[x]', as an equation on the operation's run. -/
theorem MapSeen.lookRun (h : MapSeen w b f m) (x : List Bool) (hi : okT x) :
    (Instr.lookup 155 (.map (some b)) (keyT x) false).run Tryd.prog w = .ok (.bool (f x)) w := by
  obtain ⟨D, h1, h2⟩ := h
  obtain ⟨v, ps, hrun, hv⟩ := h1.lookup keyS_tab.K Tryd.underlying155 (show (zeroValue 4).run Tryd.prog w = .ok (.bool false) w by kernel_rfl) (zd := .held (.bool false)) (zp := []) rfl (keyS_tab.of x hi)
  have e : v = .bool (f x) := by
    simp only [heldR, Option.some.injEq, Prod.mk.injEq] at hv
    obtain ⟨hv, _⟩ := hv
    cases e : f x with
    | false =>
      rw [atKey_of_not_has (by rw [h2.has x hi, e])] at hv
      injection hv
    | true =>
      rw [h2.at_ x hi e] at hv
      injection hv
  rw [← e]
  exact hrun
/-- 'm[x] = true'. -/
theorem storeSeen {ops : Array Oper} {rest : List Oper} {o : Oper} {a : Act} {Q : Exit → Act → World → Prop} (hg : o.guard = none) (mo xo yo : Operand) (hop : o.op = Op.mapUpdate 155 mo xo yo)
    (hm : a.eval mo = .map (some b)) (h : MapSeen w b f m) (x : List Bool) (hx : a.eval xo = keyT x) (hy : a.eval yo = .bool true) (hi : okT x) (hs : m ≤ 1000000000)
    (hK : ∀ w', MapSeen w' b (fun y => if y = x then true else f y) (m + 1) → w.grownBy w' (some b) → wpList Tryd.prog ops Q rest (a.put o.dst undef) w') : wpList Tryd.prog ops Q (o :: rest) a w := by
  obtain ⟨D, h1, h2⟩ := h
  refine wpList_mapUpdate_own w hg mo xo yo 155 hop 9 4 keyS_tab.K Tryd.underlying155 _ b m D hm h1 (by simp only [maxLen]; omega) _ _ (litT x) hx hy (keyS_tab.of x hi) (.held (.bool true)) [] rfl fun w' h3 h4 => ?_
  exact hK w' ⟨_, h3, h2.put hi⟩ h4
end
end Go.Proofs.YtfbhmkpihmcegaaDoor
namespace Go.Proofs.YtfbhmkpihmcegaaDoor

theorem addT_len (l : List (List Bool)) (g : List Bool) : (addT l g).length ≤ l.length + 1 := by
  unfold addT
  split
  · omega
  · rw [List.length_append, List.length_singleton]; omega
theorem next_len (v : Nat) : ∀ L l : List (List Bool), (L.foldl (fun l f => addT (addT l (lowT f v)) (highT f v)) l).length ≤ l.length + 2 * L.length
  | [], l => by rw [List.foldl_nil, List.length_nil]; omega
  | f :: L, l => by
    have ih := next_len v L (addT (addT l (lowT f v)) (highT f v))
    have h1 := addT_len (addT l (lowT f v)) (highT f v)
    have h2 := addT_len l (lowT f v)
    rw [List.foldl_cons, List.length_cons]
    omega
theorem lvl_len (t : List Bool) : ∀ v, (lvlT t v).length ≤ 2 ^ v
  | 0 => by show 1 ≤ 1; omega
  | v + 1 => by
    have h1 := lvl_len t v
    have h2 := next_len v (lvlT t v) []
    show (nextT v (lvlT t v)).length ≤ _
    unfold nextT
    rw [List.length_nil] at h2
    rw [Nat.pow_succ]
    omega
theorem lowT_len (t : List Bool) (v : Nat) : (lowT t v).length = t.length := by unfold lowT; simp
theorem highT_len (t : List Bool) (v : Nat) : (highT t v).length = t.length := by unfold highT; simp
theorem lvl_each (t : List Bool) : ∀ v, ∀ f ∈ lvlT t v, f.length = t.length
  | 0, f, hf => by rw [List.mem_singleton.1 hf]
  | v + 1, f, hf => by
    rcases ((next_fold v (lvlT t v) [] List.nodup_nil).2 f).1 hf with h | ⟨g, hg, rfl | rfl⟩
    · cases h
    · rw [lowT_len]; exact lvl_each t v g hg
    · rw [highT_len]; exact lvl_each t v g hg
/-- A round of the level's walk. -/
theorem take_fold (v : Nat) (L : List (List Bool)) (k : Nat) (hk : k < L.length) :
    (L.take (k + 1)).foldl (fun l f => addT (addT l (lowT f v)) (highT f v)) [] = addT (addT ((L.take k).foldl (fun l f => addT (addT l (lowT f v)) (highT f v)) []) (lowT (L.getD k []) v)) (highT (L.getD k []) v) := by
  rw [List.take_add_one, List.foldl_append, List.getD_eq_getElem?_getD, List.getElem?_eq_getElem hk]
  rfl
theorem take_open (v : Nat) (L : List (List Bool)) (k : Nat) (hk : k < L.length) :
    ((L.take (k + 1)).filter (openT v)).length = ((L.take k).filter (openT v)).length + (if openT v (L.getD k []) then 1 else 0) := by
  rw [List.take_add_one, List.filter_append, List.length_append, List.getD_eq_getElem?_getD, List.getElem?_eq_getElem hk]
  congr 1
  cases h : openT v L[k] <;> simp [h]
end Go.Proofs.YtfbhmkpihmcegaaDoor
namespace Go.Proofs.YtfbhmkpihmcegaaDoor
open Go.RowKit

structure HlfI (wz : World) (pl ph sz : Nat) (f : List Bool) (v i : Nat) (wr : World) : Prop where
  fr : Fr (fun k => k = pl ∨ k = ph) wz wr
  ne : pl ≠ ph
  lo : ∃ us, Blk wr pl 4 (boolArr us) ∧ us.length = sz ∧ ∀ j, j < i → us.getD j false = f.getD (offN j v) false
  hi : ∃ us, Blk wr ph 4 (boolArr us) ∧ us.length = sz ∧ ∀ j, j < i → us.getD j false = f.getD (onN j v) false
section
variable {wz wr : World} {pl ph sz v i : Nat} {f : List Bool}
theorem HlfI.drewN (h : HlfI wz pl ph sz f v i wr) (m : Nat) : HlfI wz pl ph sz f v i (wr.drewN m) := by
  obtain ⟨us, h1, h2, h3⟩ := h.lo
  obtain ⟨vs, k1, k2, k3⟩ := h.hi
  exact ⟨h.fr.trans (.of_below (below_drewN (Below.refl wr.heap.size wr) m) (Nat.le_refl _)), h.ne, ⟨us, h1.drewN m, h2, h3⟩, ⟨vs, k1.drewN m, k2, k3⟩⟩
theorem half_put {us : List Bool} {g : Nat → Bool} {i : Nat} (h2 : us.length = sz) (h3 : ∀ j, j < i → us.getD j false = g j) (hi : i < sz) : ∀ j, j < i + 1 → (us.set i (g i)).getD j false = g j := by
  intro j hj
  rw [getD_set]
  by_cases e : i = j
  · subst e
    rw [if_pos ⟨rfl, by omega⟩]
  · rw [if_neg (fun h => e h.1)]
    exact h3 j (by omega)
/-- Low, then high. -/
theorem HlfI.next (h : HlfI wz pl ph sz f v i wr) (hi : i < sz) : HlfI wz pl ph sz f v (i + 1) ((wr.setCell ⟨pl, i, none⟩ (.bool (f.getD (offN i v) false))).setCell ⟨ph, i, none⟩ (.bool (f.getD (onN i v) false))) := by
  obtain ⟨us, h1, h2, h3⟩ := h.lo
  obtain ⟨vs, k1, k2, k3⟩ := h.hi
  have hn := h.ne
  refine ⟨(h.fr.set_ (p := ⟨pl, i, none⟩) (.inl rfl) _).set_ (p := ⟨ph, i, none⟩) (.inr rfl) _, hn, ⟨us.set i _, ?_, by rw [List.length_set]; exact h2, half_put (g := fun j => f.getD (offN j v) false) h2 h3 hi⟩, ⟨vs.set i _, ?_, by rw [List.length_set]; exact k2, half_put (g := fun j => f.getD (onN j v) false) k2 k3 hi⟩⟩
  · rw [← boolArr_set]; exact (h1.set_ i _).far hn _
  · rw [← boolArr_set]; exact (k1.far (fun e => hn e.symm) _).set_ i _
/-- High, then low. -/
theorem HlfI.next2 (h : HlfI wz pl ph sz f v i wr) (hi : i < sz) : HlfI wz pl ph sz f v (i + 1) ((wr.setCell ⟨ph, i, none⟩ (.bool (f.getD (onN i v) false))).setCell ⟨pl, i, none⟩ (.bool (f.getD (offN i v) false))) := by
  obtain ⟨us, h1, h2, h3⟩ := h.lo
  obtain ⟨vs, k1, k2, k3⟩ := h.hi
  have hn := h.ne
  refine ⟨(h.fr.set_ (p := ⟨ph, i, none⟩) (.inr rfl) _).set_ (p := ⟨pl, i, none⟩) (.inl rfl) _, hn, ⟨us.set i _, ?_, by rw [List.length_set]; exact h2, half_put (g := fun j => f.getD (offN j v) false) h2 h3 hi⟩, ⟨vs.set i _, ?_, by rw [List.length_set]; exact k2, half_put (g := fun j => f.getD (onN j v) false) k2 k3 hi⟩⟩
  · rw [← boolArr_set]; exact (h1.far hn _).set_ i _
  · rw [← boolArr_set]; exact (k1.set_ i _).far (fun e => hn e.symm) _
theorem half_all {us : List Bool} {g : Nat → Bool} (h2 : us.length = sz) (h3 : ∀ j, j < sz → us.getD j false = g j) : us = (List.range sz).map g := by
  refine list_same (by rw [h2]; simp) fun j hj => ?_
  rw [h3 j (by omega), List.getD_eq_getElem?_getD, List.getElem?_map, List.getElem?_eq_getElem (by simp; omega)]
  simp
theorem HlfI.done (h : HlfI wz pl ph sz f v sz wr) (hf : f.length = sz) : Blk wr pl 4 (boolArr (lowT f v)) ∧ Blk wr ph 4 (boolArr (highT f v)) := by
  obtain ⟨us, h1, h2, h3⟩ := h.lo
  obtain ⟨vs, k1, k2, k3⟩ := h.hi
  rw [half_all (g := fun j => f.getD (offN j v) false) h2 h3, ← hf] at h1
  rw [half_all (g := fun j => f.getD (onN j v) false) k2 k3, ← hf] at k1
  exact ⟨h1, k1⟩
end
/-- append of one table, in a plain region; whose block it is. -/
theorem appT3 (w : World) {ops : Array Oper} {rest : List Oper} {o : Oper} {a : Act} {Q : Exit → Act → World → Prop} (hgd : o.guard = none) (s x : Operand) (t : TypeId)
    (ho : o.op = .call { callee := .builtin .append, args := #[s, x], argTypes := #[t, t] }) (base sz : Nat) (ht : Tryd.prog.underlying t = some (.slice 82))
    (v : Value) (gs : List Nat) (hs : a.eval s = v) (hown : OwnT w base sz v gs) (b c g : Nat) (hx : a.eval x = .slice (some ⟨b, 0, none⟩) 1 c) (hc : w.cell? ⟨b, 0, none⟩ = some (tabV sz g))
    (hl : gs.length ≤ 1000000) (hbase : base ≤ w.heap.size)
    (h : ∀ v' w', OwnT w' base sz v' (gs ++ [g]) → w.grownBy w' v.ownBlock → (v'.ownBlock = v.ownBlock ∨ v'.ownBlock = some w.heap.size) → wpList Tryd.prog ops Q rest (a.put o.dst v') w') : wpList Tryd.prog ops Q (o :: rest) a w := by
  obtain ⟨i0, hi, hz0, hz1, hz2⟩ := info_parts tableInfo
  refine wpList_append_any w hgd s x t ho base 82 i0 (.slice none 0 0) 1 24 ht hi hz0 hz1 hz2 rfl (by decide) v gs.length _ hs hown (b + 1) _ 1 c [tabV sz g] hx (one_newsT w _ b hc) (fun u hu => by rw [List.mem_singleton.1 hu]; rfl) (by simp only [maxLen]; omega) (by omega) hbase ?_
  intro v' w' ho' hg' hor
  refine h v' w' ?_ hg' hor
  unfold OwnT
  rw [List.length_append, List.map_append]
  exact ho'
/-- Where the walk over the two new tables stands. -/
structure PuI (w0 : World) (sz M pl ph px : Nat) (lo hi : List Bool) (L : List (List Bool)) (next : Value) (wr : World) : Prop where
  bel : Below w0.heap.size w0 wr
  row : ∃ gs, OwnT wr (w0.heap.size + 1) sz next gs ∧ Tabs wr 0 sz gs L
  seen : ∃ m, m ≤ M ∧ MapSeen wr w0.heap.size (fun x => decide (x ∈ L)) m
  kl : Blk wr pl 4 (boolArr lo)
  kh : Blk wr ph 4 (boolArr hi)
  kx : Blk wr px 82 #[tabV sz pl, tabV sz ph]
  nx : next.ownBlock ≠ some px
  ge : w0.heap.size < pl ∧ w0.heap.size < ph ∧ w0.heap.size < px
  len : lo.length = sz ∧ hi.length = sz
  few : L.length ≤ M
theorem MapSeen.congr {w : World} {b m : Nat} {f f' : List Bool → Bool} (h : MapSeen w b f m) (e : ∀ x, f x = f' x) : MapSeen w b f' m := by
  rw [← show f = f' from funext e]
  exact h
theorem PuI.below {w0 wr wr' : World} {sz M pl ph px : Nat} {lo hi : List Bool} {L : List (List Bool)} {next : Value} (h : PuI w0 sz M pl ph px lo hi L next wr) (hb : Below wr.heap.size wr wr') : PuI w0 sz M pl ph px lo hi L next wr' := by
  obtain ⟨gs, h1, h2⟩ := h.row
  obtain ⟨m, h3, h4⟩ := h.seen
  exact ⟨h.bel.trans (hb.mono h.bel.size), ⟨gs, h1.below hb, h2.below hb⟩, ⟨m, h3, h4.below hb⟩, h.kl.below hb h.kl.lt, h.kh.below hb h.kh.lt, h.kx.below hb h.kx.lt, h.nx, h.ge, h.len, h.few⟩
theorem PuI.skip {w0 wr : World} {sz M pl ph px : Nat} {lo hi u : List Bool} {L : List (List Bool)} {next : Value} (h : PuI w0 sz M pl ph px lo hi L next wr) (hu : u ∈ L) : PuI w0 sz (M + 1) pl ph px lo hi (addT L u) next wr := by
  unfold addT
  rw [if_pos hu]
  obtain ⟨m, h3, h4⟩ := h.seen
  exact ⟨h.bel, h.row, ⟨m, Nat.le_succ_of_le h3, h4⟩, h.kl, h.kh, h.kx, h.nx, h.ge, h.len, Nat.le_succ_of_le h.few⟩
theorem grown_blk {w w1 w2 : World} {g b : Nat} {t : TypeId} {cs : Array Value} {o : Obj} {r : Option Nat} (h : Blk w g t cs) (h1 : w.grownBy w1 (some b)) (hb : g ≠ b) (h2 : (w1.alloc o).grownBy w2 r) (hr : r ≠ some g) : Blk w2 g t cs :=
  ((h.grown h1 (fun e => hb (by injection e))).alloc o).grown h2 (fun e => hr e.symm)
theorem PuI.add {w0 wr w1 w2 : World} {sz M pl ph px m g : Nat} {lo hi u : List Bool} {L : List (List Bool)} {next v9 : Value} {gs : List Nat} {o : Obj} (h : PuI w0 sz M pl ph px lo hi L next wr) (hu : u ∉ L)
    (hg : (g = pl ∧ u = lo) ∨ (g = ph ∧ u = hi)) (hm : m ≤ M) (hs : MapSeen w1 w0.heap.size (fun y => if y = u then true else decide (y ∈ L)) (m + 1)) (hgr : wr.grownBy w1 (some w0.heap.size))
    (hn : OwnT wr (w0.heap.size + 1) sz next gs) (hT : Tabs wr 0 sz gs L) (ho : OwnT w2 (w0.heap.size + 1) sz v9 (gs ++ [g])) (hg2 : (w1.alloc o).grownBy w2 next.ownBlock)
    (hor : v9.ownBlock = next.ownBlock ∨ v9.ownBlock = some (w1.alloc o).heap.size) : PuI w0 sz (M + 1) pl ph px lo hi (addT L u) v9 w2 := by
  unfold addT
  rw [if_neg hu]
  have hlt := fun k e => World.ownsRow.lt hn k e
  have hge := h.ge
  have hb : next.ownBlock ≠ some w0.heap.size := fun e => by have := (hlt _ e).1; omega
  have k9 : ∀ {p : Nat} {cs : Array Value}, Blk wr p 4 cs → p ≠ w0.heap.size → Blk w2 p 4 cs := fun hk hp => grown_blk hk hgr hp hg2 (own_blk_ne hn hk (by decide))
  have kl := k9 h.kl (by omega)
  have kh := k9 h.kh (by omega)
  have hsz1 := hgr.size
  have hsz2 : w1.heap.size < (w1.alloc o).heap.size := by simp
  have hpx := h.kx.lt
  have hb1 : Below w0.heap.size w0 (w1.alloc o) := (h.bel.grown hgr h.bel.size (fun j hj => by injection hj with e; omega)).alloc (Nat.le_trans h.bel.size hgr.size) o
  refine ⟨hb1.grown hg2 (Nat.le_trans h.bel.size (by omega)) (fun j hj => by have := (hlt j hj).1; omega), ⟨gs ++ [g], ho, ?_⟩, ⟨m + 1, by omega, ?_⟩, kl, kh, grown_blk h.kx hgr (by omega) hg2 h.nx, ?_, hge, h.len, by rw [List.length_append, List.length_singleton]; exact Nat.succ_le_succ h.few⟩
  · have hT2 : Tabs w2 0 sz gs L := ⟨hT.len, fun k hk => by
      obtain ⟨e1, e2, e3⟩ := hT.is k hk
      refine ⟨e1, ?_, e3⟩
      by_cases e : gs.getD k 0 = w0.heap.size
      · rw [e] at e2 ⊢
        obtain ⟨m', _, D, hD, _⟩ := h.seen
        obtain ⟨es, clock, hh, _⟩ := hD
        have : wr.heap[w0.heap.size]? = some (.cells (boolArr (L.getD k [])) 4 (0, 0)) := e2
        rw [hh] at this
        cases this
      · exact k9 e2 e⟩
    rcases hg with ⟨rfl, rfl⟩ | ⟨rfl, rfl⟩
    · exact hT2.push (Nat.zero_le _) kl h.len.1
    · exact hT2.push (Nat.zero_le _) kh h.len.2
  · refine ((hs.below ((Below.refl w1.heap.size w1).alloc (Nat.le_refl _) o)).same ?_).congr fun x => ?_
    · exact hg2.block _ (by have := h.bel.size; have := hs.lt; omega) (fun e => hb e.symm)
    · simp only [List.mem_append, List.mem_singleton]
      by_cases e : x = u
      · rw [if_pos e, decide_eq_true (.inr e)]
      · rw [if_neg e]
        by_cases e2 : x ∈ L
        · rw [decide_eq_true e2, decide_eq_true (.inl e2)]
        · rw [decide_eq_false e2, decide_eq_false (fun h => h.elim e2 e)]
  · rcases hor with e | e
    · rw [e]; exact h.nx
    · rw [e]; intro e; injection e with e; omega
theorem strT_size (u : List Bool) : (strT u).size = u.length := by
  unfold strT
  show (u.map digB).toArray.size = _
  simp
/-- A table's text grows. -/
theorem strT_next {u : List Bool} {i : Nat} (hi : i < u.length) : strT (u.take (i + 1)) = strT (u.take i) ++ ⟨#[digB (u.getD i false)]⟩ := by
  unfold strT
  rw [List.take_add_one, List.getD_eq_getElem?_getD, List.getElem?_eq_getElem hi, List.map_append]
  apply ByteArray.ext
  simp
theorem filter_le (v : Nat) (L : List (List Bool)) : (L.filter (openT v)).length ≤ L.length := List.length_filter_le ..
theorem sizeT_lt (t : List Bool) : ∀ v, sizeT t v < 2 ^ v
  | 0 => by show 0 < 1; omega
  | v + 1 => by
    have h1 := sizeT_lt t v
    have h2 := filter_le v (lvlT t v)
    have h3 := lvl_len t v
    show sizeT t v + ((lvlT t v).filter (openT v)).length < _
    rw [Nat.pow_succ]
    omega
theorem own_after {w w1 : World} {b sz : Nat} {v : Value} {gs : List Nat} (h : OwnT w (b + 1) sz v gs) (hg : w.grownBy w1 (some b)) (o : Obj) : OwnT (w1.alloc o) (b + 1) sz v gs := by
  have h1 : OwnT w1 (b + 1) sz v gs := World.ownsRow.kept h hg (by
    cases e : v.ownBlock with
    | none => exact .inl rfl
    | some k => exact .inr (fun e2 => by have := (World.ownsRow.lt h k e).1; injection e2 with e2; omega))
  exact h1.below ((Below.refl w1.heap.size w1).alloc (Nat.le_refl _) o)
/-- The two new tables, one by one. -/
def grJ (lo hi : List Bool) (L : List (List Bool)) (j : Nat) : List (List Bool) := ([lo, hi].take j).foldl addT L
theorem grJ_at {pl ph sz : Nat} {lo hi : List Bool} {L : List (List Bool)} {j : Nat} (hj : j < 2) : ∃ g u, ((g = pl ∧ u = lo) ∨ (g = ph ∧ u = hi)) ∧ #[tabV sz pl, tabV sz ph][j]? = some (tabV sz g) ∧ grJ lo hi L (j + 1) = addT (grJ lo hi L j) u := by
  rcases (show j = 0 ∨ j = 1 by omega) with rfl | rfl
  · exact ⟨pl, lo, .inl ⟨rfl, rfl⟩, rfl, rfl⟩
  · exact ⟨ph, hi, .inr ⟨rfl, rfl⟩, rfl, rfl⟩
end Go.Proofs.YtfbhmkpihmcegaaDoor
