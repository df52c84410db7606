/-
  family.New.
-/
import Derived.Test.YtfbhmkpihmcegaaFamPlain
namespace Go.Proofs.Ytfbhmkpihmcegaa
open Go.RowKit Go.Maps

theorem spZ_empty (things : Int) : SpZ (emptyA 4000) things := by
  refine ⟨wf_empty 4000, ?_, ?_, List.length_replicate ..⟩
  · intro k n e
    rw [got_empty] at e
    cases e
  · intro k n e
    rw [got_empty] at e
    cases e
/-- What family.New answers. -/
structure FsNew (w : World) (vn : Nat) (S B gn gu gt : Nat) (w' : World) : Prop where
  sp : FsM w' S B gn gu gt (vn : Int) (emptyA 4000)
  own : ∀ k, arB B gn gu gt k ∨ k = S → w.heap.size ≤ k
  bel : Below w.heap.size w w'
def FsNewP (w : World) (vn : Nat) (e : Ending) (w' : World) : Prop := ∃ S B gn gu gt, e = .returned (.tuple #[.pointer (some ⟨S, 0, none⟩), .nilIface]) ∧ FsNew w vn S B gn gu gt w'
theorem fs_new {w w1 : World} {vn B gn gu gt : Nat} (h6 : vn ≤ 6) (ha : ArM w1 B gn gu gt (emptyA 4000)) (hlow : ∀ k, arB B gn gu gt k → w.heap.size ≤ k) (hb : Below w.heap.size w w1) :
    FsNew w vn w1.heap.size B gn gu gt (w1.alloc (.cells #[.pointer (some ⟨B, 0, none⟩), .int .i64 (vn : Int)] 76)) := by
  have h1 : Below w1.heap.size w1 (w1.alloc (.cells #[.pointer (some ⟨B, 0, none⟩), .int .i64 (vn : Int)] 76)) := (Below.refl w1.heap.size w1).alloc (Nat.le_refl _) _
  refine ⟨⟨Blk.new w1 76 _, ha.below h1 (fun k hk => ha.lt hk), spZ_empty _, by omega⟩, fun k hk => ?_, hb.trans (h1.mono hb.size)⟩
  rcases hk with hk | hk
  · exact hlow k hk
  · rw [hk]; exact hb.size
set_option maxRecDepth 100000 in
set_option maxHeartbeats 4000000 in
theorem fzNew_any (vn : Nat) (h6 : vn ≤ 6) (w : World) : Calls Try.prog 22 #[.int .i64 (vn : Int), .int .i64 4000] w (FsNewP w vn) := by
  have HNW := hide (arNew_any 4000 w (by unfold I64; omega))
  have h1b : decide ((vn : Int) < 0) = false := decide_eq_false (by omega)
  have h2b : decide ((24 : Int) < (vn : Int)) = false := decide_eq_false (by omega)
  go_enter Try.func22, Try.ntmps22
  go_wp2_with fail
  refine (HNW.out).mono ?_
  rintro e w1 (⟨hno, rfl, hb1⟩ | ⟨hyes, B, gn, gu, gt, rfl, har, hlow, hb1⟩)
  · omega
  · have HR := hide (fs_new (vn := vn) h6 har hlow hb1)
    clear har hlow hb1 HNW
    go_wp2
    go_ret2
    exact ⟨_, _, _, _, _, rfl, HR.out⟩
end Go.Proofs.Ytfbhmkpihmcegaa
