/-
  An arena's rows, as cells.
-/
import Derived.Test.YtmncoldaemcnlaaGreatDoorArenaOut
import Derived.Test.YtmncoldaemcnlaaGreatDoorFr
namespace Go.Proofs.YtmncoldaemcnlaaGreatDoor
open Go.RowKit

def nodeV (n : Nd) : Value := .agg #[.int .i64 n.var, .int .i64 n.low, .int .i64 n.high]
def nodeCells (n : Nd) : List Value := [.int .i64 n.var, .int .i64 n.low, .int .i64 n.high]
def nodeArr (ns : List Nd) : Array Value := (ns.flatMap nodeCells).toArray
def boolArr (us : List Bool) : Array Value := (us.map Value.bool).toArray
def intArr (tab : List Int) : Array Value := (tab.map (Value.int .i64)).toArray
theorem flat_at : ∀ (ns : List Nd) (k j : Nat), k < ns.length → j < 3 → (ns.flatMap nodeCells)[k * 3 + j]? = (nodeCells (ns.getD k nd0))[j]? := by
  intro ns
  induction ns with
  | nil => intro k j h; simp at h
  | cons a l ih =>
    intro k j hk hj
    cases k with
    | zero =>
      rw [List.flatMap_cons, Nat.zero_mul, Nat.zero_add, List.getElem?_append_left (by simpa [nodeCells] using hj)]
      rfl
    | succ k =>
      rw [List.flatMap_cons, List.getElem?_append_right (by simp [nodeCells]; omega)]
      have e : (k + 1) * 3 + j - (nodeCells a).length = k * 3 + j := by simp [nodeCells]; omega
      rw [e, ih k j (by simpa using hk) hj]
      simp
theorem nodeArr_at {ns : List Nd} {k : Nat} (hk : k < ns.length) : (nodeArr ns)[k * 3]? = some (.int .i64 (ns.getD k nd0).var) ∧ (nodeArr ns)[k * 3 + 1]? = some (.int .i64 (ns.getD k nd0).low) ∧ (nodeArr ns)[k * 3 + 2]? = some (.int .i64 (ns.getD k nd0).high) := by
  unfold nodeArr
  simp only [List.getElem?_toArray]
  refine ⟨?_, ?_, ?_⟩
  · exact (flat_at ns k 0 hk (by omega)).trans rfl
  · exact (flat_at ns k 1 hk (by omega)).trans rfl
  · exact (flat_at ns k 2 hk (by omega)).trans rfl
theorem flat_set : ∀ (ns : List Nd) (k : Nat) (n : Nd), k < ns.length → (((ns.flatMap nodeCells).set (k * 3) (.int .i64 n.var)).set (k * 3 + 1) (.int .i64 n.low)).set (k * 3 + 2) (.int .i64 n.high) = (ns.set k n).flatMap nodeCells := by
  intro ns
  induction ns with
  | nil => intro k n h; simp at h
  | cons a l ih =>
    intro k n hk
    cases k with
    | zero =>
      simp [nodeCells]
    | succ k =>
      have ih2 := ih k n (by simpa using hk)
      rw [List.flatMap_cons, List.set_cons_succ, List.flatMap_cons, ← ih2]
      have e1 : (k + 1) * 3 = k * 3 + 3 := by omega
      rw [e1]
      simp [nodeCells]
theorem nodeArr_set {ns : List Nd} {k : Nat} {n : Nd} (hk : k < ns.length) : (((nodeArr ns).setIfInBounds (k * 3) (.int .i64 n.var)).setIfInBounds (k * 3 + 1) (.int .i64 n.low)).setIfInBounds (k * 3 + 2) (.int .i64 n.high) = nodeArr (ns.set k n) := by
  apply Array.toList_inj.1
  unfold nodeArr
  simp only [Array.toList_setIfInBounds]
  exact flat_set ns k n hk
theorem boolArr_at {us : List Bool} {k : Nat} (hk : k < us.length) : (boolArr us)[k]? = some (.bool (us.getD k false)) := by
  unfold boolArr
  rw [List.getElem?_toArray, List.getElem?_map, List.getElem?_eq_getElem hk, List.getD_eq_getElem?_getD, List.getElem?_eq_getElem hk]
  rfl
theorem boolArr_set {us : List Bool} {k : Nat} {x : Bool} : (boolArr us).setIfInBounds k (.bool x) = boolArr (us.set k x) := by
  apply Array.toList_inj.1
  simp [boolArr, List.map_set]
theorem intArr_at {tab : List Int} {k : Nat} (hk : k < tab.length) : (intArr tab)[k]? = some (.int .i64 (tab.getD k 0)) := by
  unfold intArr
  rw [List.getElem?_toArray, List.getElem?_map, List.getElem?_eq_getElem hk, List.getD_eq_getElem?_getD, List.getElem?_eq_getElem hk]
  rfl
theorem intArr_set {tab : List Int} {k : Nat} {x : Int} : (intArr tab).setIfInBounds k (.int .i64 x) = intArr (tab.set k x) := by
  apply Array.toList_inj.1
  simp [intArr, List.map_set]
end Go.Proofs.YtmncoldaemcnlaaGreatDoor
