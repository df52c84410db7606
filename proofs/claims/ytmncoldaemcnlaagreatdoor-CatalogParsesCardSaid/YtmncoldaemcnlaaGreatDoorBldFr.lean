/-
  What stands behind a write into a builder: rows of other types.
-/
import Derived.Test.YtmncoldaemcnlaaGreatDoorCatNew
import Derived.Lib.OthersKept
namespace Go.Proofs.YtmncoldaemcnlaaGreatDoor
open Go.RowKit
/-- A row of another type stands. -/
theorem ownsRow_others {w w' : World} {base b s n : Nat} {T e9 : TypeId} {e : TypeId} {v : Value} {xs : List Value} {cs : Array Value} (h : w.ownsRow base e s v n xs) (ho : Lib.OthersKept e9 (some b) w w') (hb : Blk w b T cs) (hT : T ≠ e) (he : e ≠ e9) : w'.ownsRow base e s v n xs := by
  refine ⟨h.1, ?_⟩
  rcases h.2 with h2 | ⟨g, cap, cur, e1, hg, hgc, r⟩
  · exact .inl h2
  · refine .inr ⟨g, cap, cur, e1, hg, ho g _ hgc (fun e2 => ?_) (fun c fz e2 => ?_), r⟩
    · obtain rfl : g = b := Option.some.inj e2
      unfold Blk at hb
      rw [hb] at hgc
      injection hgc with hgc
      injection hgc with _ h3 _
      exact hT h3
    · injection e2 with _ h3 _
      exact he h3
theorem LnsP.others {w w' : World} {base b : Nat} {v : Value} {qs : List LnQ} {cs : Array Value} (h : LnsP w base v qs) (ho : Lib.OthersKept 5 (some b) w w') (hb : Blk w b 150 cs) : LnsP w' base v qs :=
  ⟨ownsRow_others h.1 ho hb (by decide) (by decide), fun q hq => ⟨ownsRow_others (h.2 q hq).1 ho hb (by decide) (by decide), (h.2 q hq).2⟩⟩
end Go.Proofs.YtmncoldaemcnlaaGreatDoor
