/-
  The law's steps of functions, in a space of their own and as tables: solspacelaw.made.
-/
import Derived.Test.YtdlcldhnbhlikaaGreatDoorFourOwn
import Derived.Test.YtdlcldhnbhlikaaGreatDoorBddTabs
import Derived.Deep.RegionHeld3
namespace Go.Proofs.YtdlcldhnbhlikaaGreatDoor
open Go.RowKit Go.Maps

/-- Everything that made hands back, and what there is of it. -/
structure MdI (w : World) (vn n : Nat) (q : Nat → Four) (S B gn gu gt gc : Nat) (vh vt : Value) (w' : World) : Prop where
  is : ∃ A hs, SpM w' S B gn gu gt gc (vn : Int) A 0 ∧ HsOk A hs (funsN vn q n) ∧ OwnI w' w.heap.size vh hs
  tab : ∃ gs, OwnT w' w.heap.size (2 ^ vn) vt gs ∧ Tabs w' w.heap.size (2 ^ vn) gs ((funsN vn q n).map (tabF (2 ^ vn)))
  own : ∀ k, spB B gn gu gt gc k ∨ k = S → w.heap.size ≤ k
  bel : Below w.heap.size w w'
def MdP (w : World) (vars : Int) (n : Nat) (q : Nat → Four) (e : Ending) (w' : World) : Prop :=
  ((¬ (1 ≤ vars ∧ vars ≤ 6 ∧ n ≤ 25)) ∧ e = .returned (.tuple #[.pointer none, .slice none 0 0, .slice none 0 0, .bool false]) ∧ w' = w) ∨
  (n ≤ 25 ∧ ∃ vn : Nat, vars = (vn : Int) ∧ 1 ≤ vn ∧ vn ≤ 6 ∧ ∃ S B gn gu gt gc vh vt, e = .returned (.tuple #[.pointer (some ⟨S, 0, none⟩), vh, vt, .bool true]) ∧ MdI w vn n q S B gn gu gt gc vh vt w')
theorem OwnT.mono {w : World} {base base' sz : Nat} {v : Value} {gs : List Nat} (h : OwnT w base sz v gs) (hb : base' ≤ base) : OwnT w base' sz v gs := by
  refine ⟨h.1, ?_⟩
  rcases h.2 with h2 | ⟨g, cap, cur, e, hg, r⟩
  · exact .inl h2
  · exact .inr ⟨g, cap, cur, e, Nat.le_trans hb hg, r⟩
theorem Tabs.mono {w : World} {base base' sz : Nat} {gs : List Nat} {ts : List (List Bool)} (h : Tabs w base sz gs ts) (hb : base' ≤ base) : Tabs w base' sz gs ts :=
  ⟨h.len, fun k hk => by
    obtain ⟨h1, h2, h3⟩ := h.is k hk
    exact ⟨Nat.le_trans hb h1, h2, h3⟩⟩
theorem md_end {w w1 wr w2 w3 : World} {vn n : Nat} {q : Nat → Four} {S B gn gu gt gc : Nat} {vh vt : Value} (hn : SpNew w vn S B gn gu gt gc w1) (hb : Below w1.heap.size w1 wr) (hf : FunI wr S B gn gu gt gc vn q n vh w2) (ht : TblI w2 (2 ^ vn) vn q n vt w3) :
    MdI w vn n q S B gn gu gt gc vh vt w3 := by
  obtain ⟨A, hs, h1, h2, h3, _⟩ := hf.is
  obtain ⟨gs, h4, h5⟩ := ht.is
  have hb1 : Below w.heap.size w wr := hn.bel.trans (hb.mono hn.bel.size)
  have hb2 : Below w.heap.size w w2 := hb1.trans (hf.fr.to_below hb1.size fun k hk hS => by have := hn.own k (.inl hS); omega)
  exact ⟨⟨A, hs, h1.below ht.bel, h2, (h3.below ht.bel).mono hb1.size⟩, ⟨gs, h4.mono hb2.size, h5.mono hb2.size⟩, hn.own, hb2.trans (ht.bel.mono hb2.size)⟩
set_option maxRecDepth 100000 in
set_option maxHeartbeats 8000000 in
theorem madeF_any (vars : Int) (Al : Option Addr) (n c : Nat) (q : Nat → Four) (w : World) (hq : FourP w Al n q) :
    Calls Tryz.prog 7 #[.int .i64 vars, .slice Al n c] w (MdP w vars n q) := by
  by_cases hr : 1 ≤ vars ∧ vars ≤ 6 ∧ n ≤ 25
  case neg =>
    by_cases h1 : vars < 1
    · go_enter Tryz.func7, Tryz.ntmps7
      go_wp2
      refine bodyPost_ret (results_tmp4 rfl _ _ _) rfl ?_
      exact .inl ⟨hr, rfl, rfl⟩
    · have h1b : decide (vars < 1) = false := decide_eq_false h1
      by_cases h2 : 6 < vars
      · go_enter Tryz.func7, Tryz.ntmps7
        go_wp2
        refine bodyPost_ret (results_tmp4 rfl _ _ _) rfl ?_
        exact .inl ⟨hr, rfl, rfl⟩
      · have h2b : decide (6 < vars) = false := decide_eq_false h2
        have h3 : (25 : Int) < (n : Int) := by omega
        go_enter Tryz.func7, Tryz.ntmps7
        go_wp2
        refine bodyPost_ret (results_tmp4 rfl _ _ _) rfl ?_
        exact .inl ⟨hr, rfl, rfl⟩
  obtain ⟨hr1, hr2, hr3⟩ := hr
  obtain ⟨vn, rfl⟩ : ∃ vn : Nat, vars = (vn : Int) := ⟨vars.toNat, by omega⟩
  have hr1' : 1 ≤ vn := by omega
  have HQ := hide hq
  have h1b : decide ((vn : Int) < 1) = false := decide_eq_false (by omega)
  have h2b : decide ((6 : Int) < (vn : Int)) = false := decide_eq_false (by omega)
  have h3b : decide ((25 : Int) < (n : Int)) = false := decide_eq_false (by omega)
  have HNW := hide (bdNew_any vn (by omega) w)
  clear hq
  go_enter Tryz.func7, Tryz.ntmps7
  go_wp2_with fail
  refine (HNW.out).mono ?_
  rintro e w1 ⟨S, B, gn, gu, gt, gc, rfl, hn1⟩
  have HN1 := hide hn1
  have HCP := hide (show CopI w w1 q 0 (.slice none 0 0) w1 from ⟨Below.refl _ _, ownF_nil _ _⟩)
  clear HNW hn1
  go_wp2
  go_loopw [10, 11] (fun vo iv wr => ∃ i : Nat, i ≤ n ∧ iv = .int .i64 i ∧ Hid (CopI w w1 q i vo wr)) (fun _ iv _ => n - (intOf iv).toNat)
  case atStart => exact ⟨0, Nat.zero_le _, rfl, HCP⟩
  case round =>
    clear HCP
    obtain ⟨i, hi, rfl, hC⟩ := hrel
    by_cases hlt : i < n
    · obtain ⟨ad, rfl, hok, c0, c1, c2, c3⟩ := HQ.out.at_ (HN1.out.bel.trans (hC.out.bel.mono HN1.out.bel.size)) hlt
      obtain ⟨ad', e', _, c0', c1', c2', c3'⟩ := HQ.out.at_ (Below.refl w.heap.size w) hlt
      cases e'
      have HNX := Lib.hid (show (List.range (i + 1)).map q = (List.range i).map q ++ [q i] from by rw [List.range_succ, List.map_append]; rfl)
      generalize q i = d at hok c0 c1 c2 c3 c0' c1' c2' c3' HNX
      obtain ⟨dw, da, db, dc⟩ := d
      simp only at c0 c1 c2 c3 c0' c1' c2' c3'
      have hiI : (i : Int) < (n : Int) := by omega
      have hlen : ((List.range i).map q).length = i := by simp
      have HC := hide hC.out
      have HE := hide (And.intro c0' (And.intro c1' (And.intro c2' c3')))
      have HB := hide (HN1.out.bel.trans (hC.out.bel.mono HN1.out.bel.size))
      have HOA := hide (hC.out.own.below ((Below.refl wr.heap.size wr).alloc (Nat.le_refl _) (.cells #[.int .i64 dw, .int .i64 da, .int .i64 db, .int .i64 dc] 89)))
      have HKA := hide (Blk.new wr 89 #[.int .i64 dw, .int .i64 da, .int .i64 db, .int .i64 dc])
      have HLT := hide (World.ownsRow.lt HOA.out)
      clear hC hok c0' c1' c2' c3'
      go_wp2
      go_region_held3 (fun w' => w'.cell? (ad.add (i * 4)) = some (.int .i64 dw) ∧ w'.cell? ⟨(ad.add (i * 4)).block, (ad.add (i * 4)).off + 1, none⟩ = some (.int .i64 da) ∧ w'.cell? ⟨(ad.add (i * 4)).block, (ad.add (i * 4)).off + 2, none⟩ = some (.int .i64 db) ∧ w'.cell? ⟨(ad.add (i * 4)).block, (ad.add (i * 4)).off + 3, none⟩ = some (.int .i64 dc))
        (first | assumption | exact ⟨c0, c1, c2, c3⟩ | exact keep4 HE.out (HB.out.alloc HB.out.size _) | exact keep4 HE.out (HB.out.alloc HB.out.size _).drew | exact keep4 HE.out hb9)
        (first
          | (refine stepF4 _ (by rfl) (.tmp 40) (.tmp 62) 86 (by rfl) w1.heap.size Tryz.underlying86 _ ((List.range i).map q) (by rfl) ?_ _ _ ⟨dw, da, db, dc⟩ (by rfl) ?_ (by omega) ?_ ?_
             (first | exact HOA.out | exact HOA.out.below (Below.refl _ _).drew)
             (first | exact HKA.out | exact HKA.out.drew)
             (have := HC.out.bel.size; simp; omega)
             intro v9 w9 ho9 hg9
             have hc9 : Below w1.heap.size w1 w9 := (HC.out.bel.alloc HC.out.bel.size _).drew.grown hg9 (by have := HC.out.bel.size; simp; omega) (fun j hj => (HLT.out j hj).1)
             have hb9 : Below w.heap.size w w9 := HN1.out.bel.trans (hc9.mono HN1.out.bel.size)))
      all_goals
        rw [← HNX.out] at ho9
        have HC9 := hide (show CopI w w1 q (i + 1) v9 w9 from ⟨hc9, ho9⟩)
        clear ho9 hg9 hb9 hc9
        go_wp2
        go_roundw
        case rel => exact ⟨i + 1, by omega, by go_num, HC9⟩
        case measure => simp [intOf]; omega
    · obtain rfl : i = n := by omega
      obtain ⟨A', c', rfl, hF, hA⟩ := hC.out.form HQ.out.1
      have hb1 : Below w.heap.size w wr := HN1.out.bel.trans (hC.out.bel.mono HN1.out.bel.size)
      have HFU := hide (funs_any S B gn gu gt gc vn Al i c q (emptyA 4000) w wr (HN1.out.sp.below hC.out.bel) hr1' low3_empty hr3 HQ.out hb1 (fun k hk => HN1.out.own k (.inl hk)))
      have HF := hide hF
      clear hF hb1
      go_wp2_with fail
      refine (HFU.out).mono ?_
      rintro e w2 ⟨vh, rfl, hfu⟩
      have HTA := hide (tables_any (2 ^ vn) vn A' i c' q w2 hr1' (by omega) hr3 (HF.out.fr hfu.fr (fun ad e hS => by have h1 := hA ad e; have h2 := HN1.out.sp.lt hS; omega)) rfl)
      have HFI := hide hfu
      clear hfu
      go_wp2_with fail
      refine (HTA.out).mono ?_
      rintro e w3 ⟨vt, rfl, hta⟩
      have HME := hide (md_end HN1.out hC.out.bel HFI.out hta)
      clear hta HFI HTA HFU HF
      go_wp2
      refine bodyPost_ret (results_tmp4 rfl _ _ _) rfl ?_
      exact .inr ⟨hr3, vn, rfl, hr1', by omega, S, B, gn, gu, gt, gc, vh, vt, rfl, HME.out⟩
end Go.Proofs.YtdlcldhnbhlikaaGreatDoor
