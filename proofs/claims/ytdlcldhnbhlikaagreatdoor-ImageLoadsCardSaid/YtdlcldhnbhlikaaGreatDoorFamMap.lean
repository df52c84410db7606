/-
  Maps of sets (small numbers) of the call's own: as the document keeps families; going over one in whatever order.
-/
import Derived.Test.YtdlcldhnbhlikaaGreatDoorBddMap
import Derived.Maps.RangeWalk
import Derived.Maps.OwnSet
namespace Go.Proofs.YtdlcldhnbhlikaaGreatDoor
open Go.RowKit Go.Maps

theorem nodup_few (m : Nat) : ∀ l : List Nat, l.Nodup → (∀ x ∈ l, x < m) → l.length ≤ m := by
  induction m with
  | zero =>
    intro l _ h
    cases l with
    | nil => exact Nat.le_refl _
    | cons a l => exact absurd (h a (List.mem_cons_self ..)) (Nat.not_lt_zero _)
  | succ m ih =>
    intro l hn h
    have h1 := ih (l.erase m) (hn.erase m) fun x hx => by
      have := hn.mem_erase_iff.1 hx
      have := h x this.2
      omega
    by_cases hm : m ∈ l
    · rw [List.length_erase_of_mem hm] at h1
      omega
    · rw [List.erase_of_not_mem hm] at h1
      omega
theorem keyU : Keyed Tryz.prog 57 := int_keyed Tryz.underlying57
def litU (s : Nat) : Lit := .int .u64 (s : Int)
theorem wfU {s : Nat} (h : s < 64) : (Lit.int .u64 (s : Int)).wf = true := by
  have h1 : (0 : Int) ≤ (s : Int) := by omega
  have h2 : (s : Int) ≤ 18446744073709551615 := by omega
  simp [Lit.wf, IntKind.min, IntKind.max, IntKind.signed, IntKind.bits]
  omega
theorem keyU_of {s : Nat} (h : s < 64) : keyOf Tryz.prog 57 (.int .u64 (s : Int)) = some (litU s) := keyOf_int_mk Tryz.underlying57 (wfU h)
theorem litU_inj {s u : Nat} (h : litU s = litU u) : s = u := by
  injection h with _ h
  omega
/-- A family's map: which sets it has. -/
structure RdU (D : DataW Unit) (f : Nat → Bool) : Prop where
  keys : ∃ es, D = .map es ∧ ∀ p ∈ es, ∃ v : Nat, p.1 = litU v ∧ v < 64
  has : ∀ s, s < 64 → Maps.has D (litU s) = f s
  at_ : ∀ s, f s = true → ∀ d, D.atKey (litU s) d = .lit (.bool true)
  dom : ∀ s, f s = true → s < 64
theorem RdU.isMap {D : DataW Unit} {f : Nat → Bool} (h : RdU D f) : IsMap D := by
  obtain ⟨es, rfl, _⟩ := h.keys
  exact ⟨es, rfl⟩
def MapU (w : World) (g : Nat) (f : Nat → Bool) : Prop := ∃ D, w.ownsMap Tryz.prog 57 (plainElem Tryz.prog 4) g 64 D ∧ RdU D f
def RngU (w : World) (g r : Nat) (f left : Nat → Bool) : Prop := ∃ D lf cnt, w.ranges Tryz.prog 57 (plainElem Tryz.prog 4) g r 64 D lf cnt ∧ RdU D f ∧ ∀ s, s < 64 → lf (litU s) = left s
section
variable {w w' : World} {g r : Nat} {f left : Nat → Bool}
theorem own_64 {n : Nat} {D : DataW Unit} (h : w.ownsMap Tryz.prog 57 (plainElem Tryz.prog 4) g n D) (hk : ∃ es, D = .map es ∧ ∀ p ∈ es, ∃ v : Nat, p.1 = litU v ∧ v < 64) : w.ownsMap Tryz.prog 57 (plainElem Tryz.prog 4) g 64 D := by
  obtain ⟨l, hl, ht⟩ := h.tidy keyU
  subst hl
  obtain ⟨es', e, hk⟩ := hk
  injection e with e
  subst e
  have hlen : l.length ≤ 64 := by
    let gg : Lit × DataW Unit → Nat := fun p => match p.1 with | .int _ v => v.toNat | _ => 0
    have hn : (l.map gg).Nodup := by
      rw [List.Nodup, List.pairwise_map]
      refine ht.imp_of_mem fun {a b} ha hb hab e => ?_
      obtain ⟨x, hx, _⟩ := hk a ha
      obtain ⟨y, hy, _⟩ := hk b hb
      have e' : ((x : Int)).toNat = ((y : Int)).toNat := by
        have := e
        simp only [gg, hx, hy, litU] at this
        exact this
      exact hab (by rw [hx, hy, show x = y by omega])
    have := nodup_few 64 _ hn fun x hx => by
      obtain ⟨a, ha, rfl⟩ := List.mem_map.1 hx
      obtain ⟨v, hv, v1⟩ := hk a ha
      simp only [gg, hv, litU]
      omega
    simpa using this
  obtain ⟨es, clock, h1, h2, _, h4⟩ := h
  refine ⟨es, clock, h1, h2, ?_, h4⟩
  injection h4 with h4
  rw [h4, length_sorted] at hlen
  simpa using hlen
theorem mapU_made (w : World) : MapU (w.alloc (.map #[] 0)) w.heap.size (fun _ => false) :=
  ⟨_, (World.ownsMap_made _ _ _ _).mono (Nat.zero_le _), ⟨[], rfl, by simp⟩, fun _ _ => rfl, fun _ e => (by cases e), fun _ e => (by cases e)⟩
theorem MapU.kept {row : Option Nat} (h : MapU w g f) (hg : w.grownBy w' row) (hne : some g ≠ row) : MapU w' g f := by
  obtain ⟨D, h1, h2⟩ := h
  exact ⟨D, h1.kept hg hne, h2⟩
theorem MapU.same (h : MapU w g f) (hb : w'.heap[g]? = w.heap[g]?) : MapU w' g f := by
  obtain ⟨D, ⟨es, clock, h1, h2⟩, h3⟩ := h
  exact ⟨D, ⟨es, clock, hb.trans h1, h2⟩, h3⟩
theorem MapU.lt (h : MapU w g f) : g < w.heap.size := by
  obtain ⟨D, h1, _⟩ := h
  exact h1.lt
theorem MapU.below {B : Nat} (h : MapU w g f) (hb : Below B w w') (hg : g < B) : MapU w' g f := h.same (hb.block g hg)
theorem MapU.fr {S : Nat → Prop} (h : MapU w g f) (hf : Fr S w w') (hS : ¬ S g) : MapU w' g f := h.same (hf.block g h.lt hS)
theorem MapU.dom (h : MapU w g f) {s : Nat} (e : f s = true) : s < 64 := by
  obtain ⟨D, _, h2⟩ := h
  exact h2.dom s e
theorem MapU.congr {f' : Nat → Bool} (h : MapU w g f) (e : ∀ s, f s = f' s) : MapU w g f' := by rw [← show f = f' from funext e]; exact h
theorem RdU.put {D : DataW Unit} (h : RdU D f) {x : Nat} (hx : x < 64) : RdU (D.put (litU x) (.lit (.bool true))) (fun y => if y = x then true else f y) := by
  have hm := h.isMap
  refine ⟨?_, fun s hs => ?_, fun s e d => ?_, fun s e => ?_⟩
  · obtain ⟨es, rfl, hk⟩ := h.keys
    refine ⟨_, rfl, fun p hp => ?_⟩
    rcases ChangeMaps.mem_insert_iff.1 hp with e | hp
    · rw [e]; exact ⟨x, rfl, hx⟩
    · exact hk p (List.mem_filter.1 hp).1
  · by_cases e : s = x
    · subst e
      rw [if_pos rfl]
      exact has_put_same hm (show WideAt.IsKeyLit (litU _) from trivial) _
    · skip
      rw [if_neg e, has_put_other (fun e2 => e (litU_inj e2))]
      exact h.has s hs
  · by_cases e' : s = x
    · subst e'
      exact atKey_put_same hm (show WideAt.IsKeyLit (litU _) from trivial) _ _
    · skip
      rw [if_neg e'] at e
      rw [atKey_put_other (fun e2 => e' (litU_inj e2))]
      exact h.at_ s e d
  · by_cases e' : s = x
    · rw [e']; exact hx
    · rw [if_neg e'] at e
      exact h.dom s e
variable {ops : Array Oper} {rest : List Oper} {o : Oper} {a : Act} {Q : Exit → Act → World → Prop}
/-- 'm[s] = true'. -/
theorem storeU (hg : o.guard = none) (mo xo yo : Operand) (t : TypeId) (hop : o.op = Op.mapUpdate t mo xo yo) (ht : Tryz.prog.underlying t = some (.map 57 4))
    (hm : a.eval mo = .map (some g)) (h : MapU w g f) (x : Nat) (hx : a.eval xo = .int .u64 (x : Int)) (hy : a.eval yo = .bool true) (hi : x < 64)
    (hK : ∀ w', MapU w' g (fun y => if y = x then true else f y) → w.grownBy w' (some g) → wpList Tryz.prog ops Q rest (a.put o.dst undef) w') : wpList Tryz.prog ops Q (o :: rest) a w := by
  obtain ⟨D, h1, h2⟩ := h
  refine wpList_mapUpdate_own w hg mo xo yo t hop 57 4 keyU ht _ g 64 D hm h1 (by decide) _ _ (litU x) hx hy (keyU_of hi) (.lit (.bool true)) [] (plainElem_bool Tryz.underlying4 true) fun w' h3 h4 => ?_
  have h5 := h2.put hi
  exact hK w' ⟨_, own_64 h3 h5.keys, h5⟩ h4
/-- 'm[s]', as an equation on the operation's run. -/
theorem MapU.lookRun {t : TypeId} (ht : Tryz.prog.underlying t = some (.map 57 4)) (h : MapU w g f) (x : Nat) (hi : x < 64) :
    (Instr.lookup t (.map (some g)) (.int .u64 (x : Int)) false).run Tryz.prog w = .ok (.bool (f x)) w := by
  obtain ⟨D, h1, h2⟩ := h
  obtain ⟨v, ps, hrun, hv⟩ := h1.lookup keyU ht (show (zeroValue 4).run Tryz.prog w = .ok (.bool false) w by kernel_rfl) (zd := .lit (.bool false)) (zp := []) (plainElem_bool Tryz.underlying4 false) (keyU_of hi)
  obtain ⟨c, rfl, hc⟩ := plainElem_bool_inv hv
  have e1 := congrArg Prod.fst hc
  simp only at e1
  have e : c = f x := by
    cases e : f x with
    | false =>
      rw [atKey_of_not_has (by rw [h2.has x hi, e])] at e1
      simpa using e1.symm
    | true =>
      rw [h2.at_ x e] at e1
      simpa using e1.symm
  rw [← e]
  exact hrun
/-- 'range m'. -/
theorem rangeU (hg : o.guard = none) (mo : Operand) (t : TypeId) (hop : o.op = Op.range t mo) (ht : Tryz.prog.underlying t = some (.map 57 4)) (hm : a.eval mo = .map (some g)) (h : MapU w g f)
    (hK : ∀ w', RngU w' g w.heap.size f f → w.grownBy w' none → w'.heap.size = w.heap.size + 1 → wpList Tryz.prog ops Q rest (a.put o.dst (.pointer (some ⟨w.heap.size, 0, none⟩))) w') : wpList Tryz.prog ops Q (o :: rest) a w := by
  obtain ⟨D, h1, h2⟩ := h
  refine wpList_range_own w hg mo t hop 57 4 keyU ht (plainElem Tryz.prog 4) g 64 D hm h1 fun w' h3 h4 h5 => hK w' ⟨D, _, _, h3, h2, h2.has⟩ h4 h5
theorem RngU.own (h : RngU w g r f left) : MapU w g f := by
  obtain ⟨D, lf, cnt, h1, h2, _⟩ := h
  exact ⟨D, h1.owns, h2⟩
theorem RngU.kept {row : Option Nat} (h : RngU w g r f left) (hg : w.grownBy w' row) (h1 : some g ≠ row) (h2 : some r ≠ row) : RngU w' g r f left := by
  obtain ⟨D, lf, cnt, h3, h4, h5⟩ := h
  exact ⟨D, lf, cnt, h3.kept hg h1 h2, h4, h5⟩
theorem RngU.left_kept {row : Option Nat} (h : RngU w g r f left) (hg : w.grownBy w' row) (h1 : some g ≠ row) (h2 : some r ≠ row) : w'.rangeLeft g r = w.rangeLeft g r := by
  obtain ⟨D, lf, cnt, h3, _⟩ := h
  rw [(h3.kept hg h1 h2).left_eq, h3.left_eq]
theorem RngU.ltr (h : RngU w g r f left) : r < w.heap.size := by
  obtain ⟨D, lf, cnt, h3, _⟩ := h
  exact h3.lt
theorem same_litU (s u : Nat) : (litU u).sameKey (litU s) = (u == s) := by
  simp only [litU, Lit.sameKey, true_and]
  rw [Bool.eq_iff_iff]
  simp
  omega
theorem RdU.key {D : DataW Unit} (h : RdU D f) {x : Int} (hx : Maps.has D (.int .u64 x) = true) : ∃ s : Nat, x = (s : Int) ∧ s < 64 := by
  obtain ⟨es, rfl, hk⟩ := h.keys
  rw [has_eq, List.any_eq_true] at hx
  obtain ⟨p, hp, hp2⟩ := hx
  obtain ⟨v, hv, hv2⟩ := hk p hp
  rw [hv] at hp2
  simp [litU, Lit.sameKey] at hp2
  exact ⟨v, hp2.symm, hv2⟩
set_option maxRecDepth 100000 in
/-- The step. -/
theorem nextU (hg : o.guard = none) (it : Operand) (hop : o.op = Op.next it false) (hit : a.eval it = .pointer (some ⟨r, 0, none⟩)) (h : RngU w g r f left)
    (hDone : (∀ s, s < 64 → left s = false) → wpList Tryz.prog ops Q rest (a.put o.dst (.tuple #[.bool false])) w)
    (hMore : ∀ (s : Nat) (w' : World), s < 64 → left s = true → f s = true → RngU w' g r f (fun u => left u && !(u == s)) → w.grownBy w' (some r) → w'.heap.size = w.heap.size → w'.rangeLeft g r < w.rangeLeft g r →
      (Instr.entry (.pointer (some ⟨r, 0, none⟩))).run Tryz.prog w' = .ok (.tuple #[.int .u64 (s : Int), .bool true]) w' → wpList Tryz.prog ops Q rest (a.put o.dst (.tuple #[.bool true, .int .u64 (s : Int), .bool true])) w') :
    wpList Tryz.prog ops Q (o :: rest) a w := by
  obtain ⟨D, lf, cnt, h1, h2, h3⟩ := h
  have hml := h1
  refine wpList_next_ranges w hg it hop 57 keyU (plainElem Tryz.prog 4) (fun x : Int => .int .u64 x) (fun b : Bool => .bool b) (fun key kl hk => by obtain ⟨x, e, _⟩ := Maps.keyOf_int_inv Tryz.underlying57 hk; exact ⟨x, e⟩)
    (fun v y hy => by obtain ⟨c, e, _⟩ := plainElem_bool_inv hy; exact ⟨c, e⟩) g r 64 D lf cnt hit h1 (fun _ hl => hDone fun s hs => by rw [← h3 s hs]; exact hl _) fun x c kl y w' cnt' hkey hlk hv hat hrg hlt hgr hsz hen => ?_
  obtain ⟨x', e1, e2, _⟩ := Maps.keyOf_int_inv Tryz.underlying57 hkey
  injection e1 with _ e1
  subst e1 e2
  obtain ⟨c', e3, e4⟩ := plainElem_bool_inv hv
  injection e3 with e3
  subst e3 e4
  have hh : Maps.has D (.int .u64 x) = true := by
    cases e : Maps.has D (.int .u64 x) with
    | true => rfl
    | false =>
      have h4 := hat (.lit (.bool (!c)))
      rw [atKey_of_not_has e] at h4
      injection h4 with h4
      injection h4 with h4
      cases c <;> cases h4
  obtain ⟨s, rfl, hs2⟩ := h2.key hh
  have hfs : f s = true := by rw [← h2.has s hs2]; exact hh
  have hc : c = true := by
    have h4 := hat (.lit (.bool false))
    rw [show (Lit.int .u64 (s : Int)) = litU s from rfl, h2.at_ s hfs] at h4
    injection h4 with h4
    injection h4 with h4
    exact h4.symm
  subst hc
  refine hMore s w' hs2 (by rw [← h3 s hs2]; exact hlk) hfs ⟨D, _, cnt', hrg, h2, fun u hu => ?_⟩ hgr hsz (by rw [hrg.left_eq, hml.left_eq]; exact hlt) hen
  show (lf (litU u) && !(litU u).sameKey (litU s)) = _
  rw [same_litU, h3 u hu]
end
end Go.Proofs.YtdlcldhnbhlikaaGreatDoor
