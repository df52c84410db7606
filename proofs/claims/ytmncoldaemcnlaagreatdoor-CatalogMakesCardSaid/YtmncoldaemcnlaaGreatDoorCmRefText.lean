/-
  A part of the proof: RefText. Conditions: none.
-/
import Derived.Test.YtmncoldaemcnlaaGreatDoorCmSpWord2
import Derived.Test.YtmncoldaemcnlaaGreatDoorCmSpBoth
import Derived.Deep.RegionHeld3
import Derived.Test.YtmncoldaemcnlaaGreatDoorCmRefOps
import Derived.IntWalk
namespace Go.Proofs.YtmncoldaemcnlaaGreatDoor
open Go.RowKit
def VerOfP (n : Nat) (w : World) (e : Ending) (w' : World) : Prop := e = .returned (.agg (verArr (verN n))) ∧ Below w.heap.size w w'
theorem version_any (n : Nat) (hn : n ≤ endR) (w : World) : Calls Tryz.prog 49 #[.int .i64 (n : Int)] w (VerOfP n w) := by
 have hz : (n : Int) ≤ 1000000000 := by unfold endR at hn; omega
 have e0 : verN n 0 = ((n : Int) / 1000) / 1000 := by show ((n / 1000000 : Nat) : Int) = _; omega
 have e1 : verN n 1 = ((n : Int) / 1000) % 1000 := by show ((n / 1000 % 1000 : Nat) : Int) = _; omega
 have e2 : verN n 2 = (n : Int) % 1000 := by show ((n % 1000 : Nat) : Int) = _; omega
 unfold VerOfP verArr
 rw [e0, e1, e2]
 go_enter Tryz.func49, Tryz.ntmps49
 have HK := hide (Blk.new w 33 #[.int .i64 ((n : Int) / 1000 / 1000), .int .i64 ((n : Int) / 1000 % 1000), .int .i64 ((n : Int) % 1000)])
 have n0 := HK.out.cell 0
 have n1 := HK.out.cell 1
 have n2 := HK.out.cell 2
 go_wp2_with fail
 exact bodyPost_ret (v := .agg #[.int .i64 ((n : Int) / 1000 / 1000), .int .i64 ((n : Int) / 1000 % 1000), .int .i64 ((n : Int) % 1000)]) (by simp [results, Tryz.results49, go_sem, n0, n1, n2]) rfl ⟨rfl, (Below.refl w.heap.size w).alloc (Nat.le_refl _) _⟩
theorem verN_i64 (n : Nat) (hn : n ≤ endR) : ∀ j, j < 3 → I64 (verN n j) := fun j _ => by
 unfold endR at hn
 unfold I64 verN
 split
 ·omega
 ·split
  ·omega
  ·omega
def verB (n : Nat) : ByteArray := verS (verN n)
theorem vers_any (n : Nat) (hn : n ≤ endR) (w : World) (hG : GlobV w) : Calls Tryz.prog 52 #[.int .i64 (n : Int)] w (VerTxP (verN n) w) := by
 have hz : (n : Int) ≤ 1000000000 := by unfold endR at hn; omega
 have e0 : verN n 0 = (n : Int) / 1000000 := by show ((n / 1000000 : Nat) : Int) = _; omega
 have e1 : verN n 1 = ((n : Int) / 1000) % 1000 := by show ((n / 1000 % 1000 : Nat) : Int) = _; omega
 have e2 : verN n 2 = (n : Int) % 1000 := by show ((n % 1000 : Nat) : Int) = _; omega
 have hv := hide (fun W (hb : Below w.heap.size w W) => refVerText_any (verN n) W (hG.below hb) (verN_i64 n hn))
 unfold verArr at hv
 rw [e0, e1, e2] at hv
 go_enter Tryz.func52, Tryz.ntmps52
 go_wp2_with (go_at_call 73; refine (hv.out _ (Below.refl _ _)).mono ?_; rintro e w9 ⟨rfl, hb9⟩)
 go_ret
 exact ⟨rfl, hb9⟩
theorem verText_at (n : Nat) (hn : n ≤ endR) (w : World) (hG : GlobV w) : Calls Tryz.prog 50 #[.agg (verArr (verN n))] w (VerTxP (verN n) w) := verText_any (verN n) w hG (verN_i64 n hn)
end Go.Proofs.YtmncoldaemcnlaaGreatDoor
namespace Go.Proofs.YtmncoldaemcnlaaGreatDoor
open Go.RowKit
set_option maxRecDepth 100000
def spB (s : Nat × Nat) : ByteArray := baL (spanT s)
theorem spB_data (s : Nat × Nat) : (spB s).data.toList = spanT s := by unfold spB baL; simp
theorem rangeT_join {l : List (Nat × Nat)} (h : l ≠ []) : rangeT l = Lib.join ((l.map spB).map (·.data.toList)) [32, 124, 124, 32] := by
 unfold rangeT
 rw [if_neg h, List.map_map, show ((fun x : ByteArray => x.data.toList) ∘ spB) = spanT from funext spB_data]
theorem verB_data (n : Nat) : (verB n).data.toList = verT n := by unfold verB verS verT; simp
theorem verB_size (n : Nat) (hn : n ≤ endR) : (verB n).size ≤ 65 := by
 have h := verN_i64 n hn
 have h0 := itoa_size _ (h 0 (by omega))
 have h1 := itoa_size _ (h 1 (by omega))
 have h2 := itoa_size _ (h 2 (by omega))
 have e : (verB n).size = (verL (verN n 0) (verN n 1) (verN n 2)).length := by show (verL _ _ _).toArray.size = _; simp
 have a0 : (⟨(Lib.itoa (verN n 0)).toArray⟩ : ByteArray).size = (Lib.itoa (verN n 0)).length := by show (Lib.itoa (verN n 0)).toArray.size = _; simp
 have a1 : (⟨(Lib.itoa (verN n 1)).toArray⟩ : ByteArray).size = (Lib.itoa (verN n 1)).length := by show (Lib.itoa (verN n 1)).toArray.size = _; simp
 have a2 : (⟨(Lib.itoa (verN n 2)).toArray⟩ : ByteArray).size = (Lib.itoa (verN n 2)).length := by show (Lib.itoa (verN n 2)).toArray.size = _; simp
 rw [e]
 unfold verL
 simp only [List.length_append, List.length_cons]
 omega
theorem verT_len (n : Nat) (hn : n ≤ endR) : (verT n).length ≤ 65 := by
 have h := verB_size n hn
 rw [← verB_data]
 exact h
theorem spanT_len {s : Nat × Nat} (h1 : s.1 ≤ endR) (h2 : s.2 ≤ endR) : (spanT s).length ≤ 134 := by
 have a := verT_len _ h1
 have b := verT_len _ h2
 unfold spanT
 repeat' split
 all_goals first
  | omega
  | (simp only [List.length_append, List.length_cons, List.length_nil, anyW]; omega)
theorem join_le (xs : List (List UInt8)) (sep : List UInt8) (M : Nat) (h : ∀ x ∈ xs, x.length ≤ M) : (Lib.join xs sep).length ≤ xs.length * (M + sep.length) := by
 have key : ∀ ys : List (List UInt8), (∀ x ∈ ys, x.length ≤ M) → Lib.lens ys ≤ ys.length * M := by
  intro ys
  induction ys with
  | nil => intro _; simp [Lib.lens]
  | cons y r ih =>
   intro h
   have h1 := h y (List.mem_cons_self ..)
   have h2 := ih fun x hx => h x (List.mem_cons_of_mem _ hx)
   unfold Lib.lens at h2 ⊢
   rw [List.map_cons, List.sum_cons, List.length_cons, Nat.succ_mul]
   omega
 cases xs with
 | nil => simp [Lib.join_nil]
 | cons x r =>
  rw [Lib.join_length, Nat.mul_add]
  have := key _ h
  rw [List.length_cons] at this ⊢
  have e : sep.length * r.length ≤ (r.length + 1) * sep.length := by rw [Nat.mul_comm, Nat.succ_mul]; omega
  omega
theorem range_len {l : List (Nat × Nat)} (h : CanF 0 l) : (Lib.join ((l.map spB).map (·.data.toList)) [32, 124, 124, 32]).length ≤ 138 * l.length := by
 have h1 := join_le ((l.map spB).map (·.data.toList)) [32, 124, 124, 32] 134 (fun x hx => by
  simp only [List.map_map, List.mem_map, Function.comp] at hx
  obtain ⟨s, hs, rfl⟩ := hx
  rw [spB_data]
  have := h.all s hs
  exact spanT_len (by omega) this.2.2)
 simp at h1
 simp
 omega
structure SpTI (w0 : World) (l : List (Nat × Nat)) (k : Nat) (v : Value) (w : World) : Prop where
 bel : Below w0.heap.size w0 w
 own : OwnS w w0.heap.size v ((l.map spB).take k)
theorem OwnS.below {w w' : World} {b : Nat} {v : Value} {xs : List ByteArray} (h : OwnS w b v xs) (hb : Below w.heap.size w w') : OwnS w' b v xs :=
 World.ownsRow.kept h (row := none) ⟨hb.os, hb.tape, hb.output, hb.size, fun i hi _ => hb.block i hi⟩ (by cases v.ownBlock <;> simp)
theorem SpTI.next {w0 w w2 w3 : World} {l : List (Nat × Nat)} {k : Nat} {v v3 : Value} {x : ByteArray} (h : SpTI w0 l k v w) (hb : Below w.heap.size w w2) (hk : k < l.length) (hx : x = spB (l.getD k (0, 0)))
  (ho : OwnS w3 w0.heap.size v3 ((l.map spB).take k ++ [x])) (hg : w2.grownBy w3 v.ownBlock) : SpTI w0 l (k + 1) v3 w3 := by
 refine ⟨(h.bel.trans (hb.mono h.bel.size)).grown hg (Nat.le_trans h.bel.size hb.size) (fun j hj => (h.own.lt j hj).1), ?_⟩
 rw [take_snoc (l.map spB) k ⟨#[]⟩ (by simpa using hk)]
 rw [hx] at ho
 have e : (l.map spB).getD k ⟨#[]⟩ = spB (l.getD k (0, 0)) := by
  rw [List.getD_eq_getElem?_getD, List.getElem?_map, List.getD_eq_getElem?_getD, List.getElem?_eq_getElem hk]
  rfl
 rw [e]
 exact ho
def RgTxP (l : List (Nat × Nat)) (w : World) (e : Ending) (w' : World) : Prop := e = .returned (.string (baL (rangeT l))) ∧ Below w.heap.size w w'
theorem rangeText_none (v : Value) (w : World) (h : OwnP w 0 v []) : Calls Tryz.prog 12 #[.agg #[v]] w (RgTxP [] w) := by
 have HB := hide ((Below.refl w.heap.size w).alloc (Nat.le_refl _) (.cells #[v] 36))
 have HE := hide (empty_any v [] _ (h.below HB.out))
 have HK := hide (Blk.new w 36 #[v])
 have n0 := HK.out.cell 0
 unfold EmptyP at HE
 rw [show decide (([] : List (Nat × Nat)) = []) = true from rfl] at HE
 go_enter Tryz.func12, Tryz.ntmps12
 go_wp2_with fail
 refine HE.out.mono ?_
 rintro e w1 ⟨rfl, hb1⟩
 go_wp2_with fail
 go_ret
 exact ⟨rfl, HB.out.trans (hb1.mono HB.out.size)⟩
theorem appStrS (w : World) {ops : Array Oper} {o : Oper} {a : Act} {K : Act → World → Prop} {Q : Exit → Act → World → Prop} {E : Prop} (hgd : o.guard = none) (s x : Operand) (t : TypeId)
  (ho : o.op = .call { callee := .builtin .append, args := #[s, x], argTypes := #[t, t] }) (base : Nat) (ht : Tryz.prog.underlying t = some (.slice 9))
  (v : Value) (xs : List ByteArray) (hs : a.eval s = v) (hown : OwnS w base v xs) (g c : Nat) (hx : a.eval x = .slice (some ⟨g, 0, none⟩) 1 c) (y : ByteArray) (hc : w.cell? ⟨g, 0, none⟩ = some (.string y))
  (hl : xs.length ≤ 4000000000) (hbase : base ≤ w.heap.size)
  (h : ∀ v' w', OwnS w' base v' (xs ++ [y]) → w.grownBy w' v.ownBlock → (v'.ownBlock = v.ownBlock ∨ v'.ownBlock = some w.heap.size) → K (a.put o.dst v') w') :
  if Region.wanted o (yielded ops a.tmps) = true then Oper.wp Tryz.prog o a w K Q else E := by
 obtain ⟨i0, hi, hz0, hz1, hz2⟩ := info_parts stringInfo
 refine step_append_any w hgd s x t ho base 9 i0 (.string ⟨#[]⟩) 1 16 ht hi hz0 hz1 hz2 rfl (by decide) v xs.length _ hs hown (g + 1) (some ⟨g, 0, none⟩) 1 c [.string y] hx (one_newsS w _ g hc) (by simp; rfl) (by simp only [maxLen]; omega) (by omega) hbase ?_
 intro v' w' ho' hg' hor
 refine h v' w' ?_ hg' hor
 unfold OwnS
 rw [List.length_append, List.length_singleton, List.map_append]
 exact ho'
theorem txAl {u w : World} (h : Below u.heap.size u w) (o : Obj) : Below u.heap.size u (w.alloc o) := h.alloc h.size o
def VerVP (xa : Value) (w : World) (e : Ending) (w' : World) : Prop := e = .returned xa ∧ Below w.heap.size w w'
def StrP (s : ByteArray) (w : World) (e : Ending) (w' : World) : Prop := e = .returned (.string s) ∧ Below w.heap.size w w'
theorem arr_getD (l : List (Nat × Nat)) {k : Nat} (hk : k < l.length) : l.toArray[k]! = l.getD k (0, 0) := by
 rw [getElem!_pos _ k (by simpa using hk), List.getD_eq_getElem?_getD, List.getElem?_eq_getElem hk]
 simp
theorem getD_mem (l : List (Nat × Nat)) {k : Nat} (hk : k < l.length) : l.getD k (0, 0) ∈ l := by
 rw [List.getD_eq_getElem?_getD, List.getElem?_eq_getElem hk]
 exact List.getElem_mem hk
theorem bytesT {s : ByteArray} {l : List UInt8} (h : s.data.toList = l) : s = baL l := (bytes_back l s h.symm).symm
theorem data_add (a b : ByteArray) : (a ++ b).data.toList = a.data.toList ++ b.data.toList := by simp
theorem blkS (w : World) (s : ByteArray) : (w.alloc (.cells #[.string s] 9)).cell? ⟨w.heap.size, 0, none⟩ = some (.string s) := by simp
set_option maxHeartbeats 4000000 in
theorem rangeText_any (v : Value) (l : List (Nat × Nat)) (w : World) (hG : GlobV w) (h : OwnP w 0 v l) (hc : CanF 0 l) : Calls Tryz.prog 12 #[.agg #[v]] w (RgTxP l w) := by
 by_cases hl : l = []
 ·subst hl
  exact rangeText_none v w h
 ·have HB := hide ((Below.refl w.heap.size w).alloc (Nat.le_refl _) (.cells #[v] 36))
  have HE := hide (empty_any v l _ (h.below HB.out))
  have HK := hide (Blk.new w 36 #[v])
  have n0 := HK.out.cell 0
  unfold EmptyP at HE
  rw [show decide (l = []) = false from decide_eq_false hl] at HE
  have HLEN := Lib.hid (can_len hc)
  have hlz : l.length ≤ 1000000000 := can_len hc
  have HJL := Lib.hid (range_len hc)
  have HJN := Lib.hid (rangeT_join hl)
  have HNE := Lib.hid hl
  have HCF := Lib.hid hc.all
  clear hl hc
  rcases h.form with ⟨rfl, h0⟩ | ⟨g, cap, rfl, _, hcm, hrow⟩
  ·exact absurd h0 HNE.out
  have HRW := hide hrow
  clear h hrow
  go_enter Tryz.func12, Tryz.ntmps12
  go_wp2_with fail
  refine HE.out.mono ?_
  rintro e w1 ⟨rfl, hb1⟩
  have HB1 := hide (HB.out.trans (hb1.mono HB.out.size))
  have HK1 := hide (HK.out.below hb1 HK.out.lt)
  have z0 := HK1.out.cell 0
  have HST := hide (show SpTI w l 0 (.slice none 0 0) w1 from ⟨HB1.out, World.ownsRow_nil _ _ _ _⟩)
  clear hb1 HB HE HK n0 HB1
  go_wp2_with fail
  go_loopw [3, 13] (fun v3 v13 wr => ∃ k : Nat, k ≤ l.length ∧ v13 = .int .i64 k ∧ Hid (SpTI w l k v3 wr)) (fun _ v13 _ => l.length - (intOf v13).toNat)
  case atStart => exact ⟨0, Nat.zero_le _, rfl, HST⟩
  case round =>
   clear HST z0
   obtain ⟨k, hk0, rfl, HM⟩ := hrel
   by_cases hk : k < l.length
   ·have hkz : (k : Int) < (l.length : Int) := by omega
    obtain ⟨c0, c1⟩ := (HRW.out.below HM.out.bel HRW.out.lt).cell (i := k) (by simpa using hk)
    rw [arr_getD l hk] at c0 c1
    obtain ⟨_, h12, h2e⟩ := HCF.out _ (getD_mem l hk)
    have HLK := Lib.hid (show ((l.map spB).take k).length ≤ 4000000000 by rw [List.length_take, List.length_map]; have := HLEN.out; unfold endR at this; omega)
    obtain ⟨a, b, hab⟩ : ∃ a b : Nat, l.getD k (0, 0) = (a, b) := ⟨_, _, rfl⟩
    have HAB := Lib.hid hab
    rw [hab] at c0 c1 h12 h2e
    simp only at c0 c1 h12 h2e
    have HBW := HM.out.bel
    have HBW := hide HBW
    have HVa := hide (fun W => show Calls Tryz.prog 49 #[.int .i64 (a : Int)] W (VerVP (.agg (verArr (verN a))) W) from version_any a (by omega) W)
    have HTa := hide (fun W (hb : Below w.heap.size w W) => show Calls Tryz.prog 50 #[.agg (verArr (verN a))] W (StrP (verB a) W) from verText_at a (by omega) W (hG.below hb))
    have HVb := hide (fun W => show Calls Tryz.prog 49 #[.int .i64 (b : Int)] W (VerVP (.agg (verArr (verN b))) W) from version_any b (by omega) W)
    have HTb := hide (fun W (hb : Below w.heap.size w W) => show Calls Tryz.prog 50 #[.agg (verArr (verN b))] W (StrP (verB b) W) from verText_at b (by omega) W (hG.below hb))
    have hsa := verB_size a (by omega)
    have hsb := verB_size b (by omega)
    have HDa := Lib.hid (verB_data a)
    have HDb := Lib.hid (verB_data b)
    generalize (Value.agg (verArr (verN a))) = xa at HVa HTa
    generalize (Value.agg (verArr (verN b))) = xb at HVb HTb
    generalize verB a = sa at HTa hsa HDa
    generalize verB b = sb at HTb hsb HDb
    unfold VerVP at HVa HVb
    unfold StrP at HTa HTb
    generalize hza : (a : Int) = za at c0 HVa
    generalize hzb : (b : Int) = zb at c1 HVb
    have haz : 0 ≤ za := by omega
    have haz2 : za ≤ 1000000000 := by unfold endR at h2e; omega
    have hbz0 : 0 ≤ zb := by omega
    have hbz : zb ≤ 1000000000 := by unfold endR at h2e; omega
    have HK := hide (Blk.new wr 118 #[.int .i64 za, .int .i64 zb])
    have y0 := HK.out.cell 0
    have y1 := HK.out.cell 1
    have HQ := Lib.hid (fun n => (show Below wr.heap.size wr ((wr.alloc (.cells #[.int .i64 za, .int .i64 zb] 118)).drewN n) from below_drewN ((Below.refl wr.heap.size wr).alloc (Nat.le_refl _) _) n))
    have HQK := Lib.hid (fun n => And.intro ((HK.out.drewN n).cell 0) ((HK.out.drewN n).cell 1))
    have adds : ∀ (a b : ByteArray), a.size + b.size ≤ 1000 → ∀ w : World, (Op.stringOp .add a b).run Tryz.prog w = .ok (.string (a ++ b)) w := fun a b h w => run_string_add_sum (P := Tryz.prog) w a b (by omega)
    by_cases ho : b = a + 1
    ·have hO : (zb == za + 1) = true := beq_iff_eq.2 (by omega)
     by_cases hf : 0 < a
     ·have hA : decide (za > 0) = true := decide_eq_true (by omega)
      by_cases he : b < endR
      ·have hB : decide (zb < 1000000000) = true := decide_eq_true (by unfold endR at he; omega)
       clear adds
       have HHE := Lib.hid he
       have HHF := Lib.hid hf
       have HHO := Lib.hid ho
       have HH1 := Lib.hid h12
       have HH2 := Lib.hid h2e
       have HZA := Lib.hid hza
       have HZB := Lib.hid hzb
       clear he hf ho h12 h2e hza hzb
       go_wp2_with fail
       go_quiet (fail)
       rename_i nq
       have HQ1 := hide (HQ.out nq)
       obtain ⟨y0, y1⟩ := HQK.out nq
       clear HQ HQK c0 c1
       generalize ((wr.alloc (.cells #[.int .i64 za, .int .i64 zb] 118)).drewN nq) = w2 at HQ1 y0 y1 ⊢
       go_wp2_with fail
       refine (HVa.out _).mono ?_
       rintro e wa ⟨rfl, hba⟩
       have HB1 := hide (HQ1.out.trans (hba.mono HQ1.out.size))
       clear hba
       go_wp2_with fail
       refine (HTa.out wa (HBW.out.trans (HB1.out.mono HBW.out.size))).mono ?_
       rintro e wb ⟨rfl, hbb⟩
       have HB2 := hide (HB1.out.trans (hbb.mono HB1.out.size))
       clear hbb HB1
       have HOA := hide ((HM.out.own.below HB2.out).below ((Below.refl wb.heap.size wb).alloc (Nat.le_refl _) (.cells #[.string sa] 9)))
       have HCA := blkS wb sa
       have HB3 := hide (HB2.out.trans (((Below.refl wb.heap.size wb).alloc (Nat.le_refl _) (.cells #[.string sa] 9)).mono HB2.out.size))
       have HSZ := Lib.hid (Nat.le_trans HM.out.bel.size HB3.out.size)
       have HX := Lib.hid (show sa = spB (l.getD k (0, 0)) from bytesT (by have ho := HHO.out; have hf := HHF.out; have he := HHE.out; have h12 := HH1.out; have h2e := HH2.out; rw [HAB.out]; unfold spanT; rw [if_pos (show b = a + 1 by omega), HDa.out]))
       go_wp2_with (at_builtin; refine appStr _ rfl _ _ _ rfl w.heap.size Tryz.underlying108 _ ((l.map spB).take k) rfl HOA.out wb.heap.size 1 rfl sa HCA HLK.out HSZ.out ?_; intro v9 w9 ho9 hg9 hor9; have HNX := hide (HM.out.next HB3.out hk HX.out ho9 hg9); clear ho9 hg9 hor9)
       go_round
       case rel => exact ⟨k + 1, by omega, by go_num, HNX⟩
       case measure => simp [intOf]; omega
      ·have hB : decide (zb < 1000000000) = false := decide_eq_false (by unfold endR at he; omega)
       clear adds
       have HHE := Lib.hid he
       have HHF := Lib.hid hf
       have HHO := Lib.hid ho
       have HH1 := Lib.hid h12
       have HH2 := Lib.hid h2e
       have HZA := Lib.hid hza
       have HZB := Lib.hid hzb
       clear he hf ho h12 h2e hza hzb
       go_wp2_with fail
       go_quiet (fail)
       rename_i nq
       have HQ1 := hide (HQ.out nq)
       obtain ⟨y0, y1⟩ := HQK.out nq
       clear HQ HQK c0 c1
       generalize ((wr.alloc (.cells #[.int .i64 za, .int .i64 zb] 118)).drewN nq) = w2 at HQ1 y0 y1 ⊢
       go_wp2_with fail
       refine (HVa.out _).mono ?_
       rintro e wa ⟨rfl, hba⟩
       have HB1 := hide (HQ1.out.trans (hba.mono HQ1.out.size))
       clear hba
       go_wp2_with fail
       refine (HTa.out wa (HBW.out.trans (HB1.out.mono HBW.out.size))).mono ?_
       rintro e wb ⟨rfl, hbb⟩
       have HB2 := hide (HB1.out.trans (hbb.mono HB1.out.size))
       clear hbb HB1
       have HOA := hide ((HM.out.own.below HB2.out).below ((Below.refl wb.heap.size wb).alloc (Nat.le_refl _) (.cells #[.string sa] 9)))
       have HCA := blkS wb sa
       have HB3 := hide (HB2.out.trans (((Below.refl wb.heap.size wb).alloc (Nat.le_refl _) (.cells #[.string sa] 9)).mono HB2.out.size))
       have HSZ := Lib.hid (Nat.le_trans HM.out.bel.size HB3.out.size)
       have HX := Lib.hid (show sa = spB (l.getD k (0, 0)) from bytesT (by have ho := HHO.out; have hf := HHF.out; have he := HHE.out; have h12 := HH1.out; have h2e := HH2.out; rw [HAB.out]; unfold spanT; rw [if_pos (show b = a + 1 by omega), HDa.out]))
       go_wp2_with (at_builtin; refine appStr _ rfl _ _ _ rfl w.heap.size Tryz.underlying108 _ ((l.map spB).take k) rfl HOA.out wb.heap.size 1 rfl sa HCA HLK.out HSZ.out ?_; intro v9 w9 ho9 hg9 hor9; have HNX := hide (HM.out.next HB3.out hk HX.out ho9 hg9); clear ho9 hg9 hor9)
       go_round
       case rel => exact ⟨k + 1, by omega, by go_num, HNX⟩
       case measure => simp [intOf]; omega
     ·have hA : decide (za > 0) = false := decide_eq_false (by omega)
      by_cases he : b < endR
      ·have hB : decide (zb < 1000000000) = true := decide_eq_true (by unfold endR at he; omega)
       clear adds
       have HHE := Lib.hid he
       have HHF := Lib.hid hf
       have HHO := Lib.hid ho
       have HH1 := Lib.hid h12
       have HH2 := Lib.hid h2e
       have HZA := Lib.hid hza
       have HZB := Lib.hid hzb
       clear he hf ho h12 h2e hza hzb
       go_wp2_with fail
       go_quiet (fail)
       rename_i nq
       have HQ1 := hide (HQ.out nq)
       obtain ⟨y0, y1⟩ := HQK.out nq
       clear HQ HQK c0 c1
       generalize ((wr.alloc (.cells #[.int .i64 za, .int .i64 zb] 118)).drewN nq) = w2 at HQ1 y0 y1 ⊢
       go_wp2_with fail
       refine (HVa.out _).mono ?_
       rintro e wa ⟨rfl, hba⟩
       have HB1 := hide (HQ1.out.trans (hba.mono HQ1.out.size))
       clear hba
       go_wp2_with fail
       refine (HTa.out wa (HBW.out.trans (HB1.out.mono HBW.out.size))).mono ?_
       rintro e wb ⟨rfl, hbb⟩
       have HB2 := hide (HB1.out.trans (hbb.mono HB1.out.size))
       clear hbb HB1
       have HOA := hide ((HM.out.own.below HB2.out).below ((Below.refl wb.heap.size wb).alloc (Nat.le_refl _) (.cells #[.string sa] 9)))
       have HCA := blkS wb sa
       have HB3 := hide (HB2.out.trans (((Below.refl wb.heap.size wb).alloc (Nat.le_refl _) (.cells #[.string sa] 9)).mono HB2.out.size))
       have HSZ := Lib.hid (Nat.le_trans HM.out.bel.size HB3.out.size)
       have HX := Lib.hid (show sa = spB (l.getD k (0, 0)) from bytesT (by have ho := HHO.out; have hf := HHF.out; have he := HHE.out; have h12 := HH1.out; have h2e := HH2.out; rw [HAB.out]; unfold spanT; rw [if_pos (show b = a + 1 by omega), HDa.out]))
       go_wp2_with (at_builtin; refine appStr _ rfl _ _ _ rfl w.heap.size Tryz.underlying108 _ ((l.map spB).take k) rfl HOA.out wb.heap.size 1 rfl sa HCA HLK.out HSZ.out ?_; intro v9 w9 ho9 hg9 hor9; have HNX := hide (HM.out.next HB3.out hk HX.out ho9 hg9); clear ho9 hg9 hor9)
       go_round
       case rel => exact ⟨k + 1, by omega, by go_num, HNX⟩
       case measure => simp [intOf]; omega
      ·exfalso
       unfold endR at he
       omega
    ·have hO : (zb == za + 1) = false := beq_eq_false_iff_ne.2 (by omega)
     by_cases hf : 0 < a
     ·have hA : decide (za > 0) = true := decide_eq_true (by omega)
      by_cases he : b < endR
      ·have hB : decide (zb < 1000000000) = true := decide_eq_true (by unfold endR at he; omega)
       have q1 := adds ⟨#[62, 61]⟩ sa (by show 2 + sa.size ≤ 1000; omega)
       have q2 := adds (⟨#[62, 61]⟩ ++ sa) ⟨#[32, 60]⟩ (by rw [ByteArray.size_append]; show 2 + sa.size + 2 ≤ 1000; omega)
       have q3 := adds (⟨#[62, 61]⟩ ++ sa ++ ⟨#[32, 60]⟩) sb (by rw [ByteArray.size_append, ByteArray.size_append]; show 2 + sa.size + 2 + sb.size ≤ 1000; omega)
       have HX := Lib.hid (show (⟨#[62, 61]⟩ ++ sa ++ ⟨#[32, 60]⟩ ++ sb) = spB (l.getD k (0, 0)) from bytesT (by rw [HAB.out]; unfold spanT; rw [if_neg (show ¬ b = a + 1 by omega), if_pos (show 0 < a by omega), if_pos (show b < endR by omega), data_add, data_add, data_add, HDa.out, HDb.out]))
       generalize (⟨#[62, 61]⟩ ++ sa : ByteArray) = p1 at q1 q2 q3 HX
       generalize (p1 ++ ⟨#[32, 60]⟩ : ByteArray) = p2 at q2 q3 HX
       generalize (p2 ++ sb : ByteArray) = p3 at q3 HX
       clear adds
       clear he hf ho h12 h2e hza hzb hsa hsb HDa HDb
       go_wp2_with fail
       go_quiet (fail)
       rename_i nq
       have HQ1 := hide (HQ.out nq)
       have HK1 := hide (HK.out.drewN nq)
       clear HQ HQK c0 c1
       generalize ((wr.alloc (.cells #[.int .i64 za, .int .i64 zb] 118)).drewN nq) = w2 at HQ1 HK1 ⊢
       have HKP := Lib.hid (fun (w' : World) (hb : Below w2.heap.size w2 w') => show w'.cell? ⟨wr.heap.size, 0, none⟩ = some (.int .i64 za) ∧ w'.cell? ⟨wr.heap.size, 1, none⟩ = some (.int .i64 zb) from ⟨(HK1.out.below hb HK1.out.lt).cell 0, (HK1.out.below hb HK1.out.lt).cell 1⟩)
       have HBW2 := hide (HBW.out.trans (HQ1.out.mono HBW.out.size))
       have HOA := Lib.hid (fun (w' : World) (hb : Below w2.heap.size w2 w') => (HM.out.own.below HQ1.out).below hb)
       have HSZ := Lib.hid (fun (w' : World) (hb : Below w2.heap.size w2 w') => Nat.le_trans HBW2.out.size hb.size)
       have HTA := Lib.hid (fun (w' : World) (hb : Below w2.heap.size w2 w') => HTa.out w' (HBW2.out.trans (hb.mono HBW2.out.size)))
       have HTB := Lib.hid (fun (w' : World) (hb : Below w2.heap.size w2 w') => HTb.out w' (HBW2.out.trans (hb.mono HBW2.out.size)))
       obtain ⟨y0, y1⟩ := HKP.out w2 (Below.refl _ _)
       have HLTO := Lib.hid (fun k e => (HM.out.own.lt k e).2)
       clear HTa HTb
       go_wp2_with fail
       go_region_held3 (fun w' => w'.cell? ⟨wr.heap.size, 0, none⟩ = some (.int .i64 za) ∧ w'.cell? ⟨wr.heap.size, 1, none⟩ = some (.int .i64 zb))
        (first | assumption | exact ⟨y0, y1⟩ | exact ⟨hk9.cell 0, hk9.cell 1⟩ | (refine HKP.out _ ?_; (repeat (first | exact Below.refl _ _ | exact (Below.refl _ _).drew | exact hbq | refine verDr ?_ | refine txAl ?_ _)); done))
        (first
         | (refine appStrS _ (by rfl) _ _ _ (by rfl) w.heap.size Tryz.underlying108 _ ((l.map spB).take k) (by rfl) (HOA.out _ ?_) _ 1 (by rfl) p3 (blkS _ p3) HLK.out (HSZ.out _ ?_) ?_; (focus ((repeat (first | exact Below.refl _ _ | exact (Below.refl _ _).drew | exact hbq | refine verDr ?_ | refine txAl ?_ _)); done)); (focus ((repeat (first | exact Below.refl _ _ | exact (Below.refl _ _).drew | exact hbq | refine verDr ?_ | refine txAl ?_ _)); done)); intro v9 w9 ho9 hg9 hor9; (refine (fun (hbz9 : Below w2.heap.size w2 (wa.alloc (.cells #[.string p3] 9))) => ?_) ?_; rotate_left; (focus ((repeat (first | exact Below.refl _ _ | exact (Below.refl _ _).drew | exact hbq | refine verDr ?_ | refine txAl ?_ _)); done))); have HNX := hide (HM.out.next (HQ1.out.trans (hbz9.mono HQ1.out.size)) hk HX.out ho9 hg9); have hk9 := (HK1.out.below hbz9 HK1.out.lt).grown hg9 (fun e => Nat.lt_irrefl _ (HLTO.out _ e.symm)); clear ho9 hg9 hor9 hbz9)
         | (go_at_call 49; (with_reducible refine (HVa.out _).mono ?_); rintro e wa ⟨rfl, hq⟩; (refine (fun (hbq : Below w2.heap.size w2 wa) => ?_) ?_; rotate_left; (focus (refine verThen ?_ hq; (repeat (first | exact Below.refl _ _ | exact (Below.refl _ _).drew | exact hbq | refine verDr ?_ | refine txAl ?_ _)); done))); clear hq)
         | (go_at_call 49; (with_reducible refine (HVb.out _).mono ?_); rintro e wa ⟨rfl, hq⟩; (refine (fun (hbq : Below w2.heap.size w2 wa) => ?_) ?_; rotate_left; (focus (refine verThen ?_ hq; (repeat (first | exact Below.refl _ _ | exact (Below.refl _ _).drew | exact hbq | refine verDr ?_ | refine txAl ?_ _)); done))); clear hq)
         | (go_at_call 50; (with_reducible refine (HTA.out _ ?_).mono ?_); (focus ((repeat (first | exact Below.refl _ _ | exact (Below.refl _ _).drew | exact hbq | refine verDr ?_ | refine txAl ?_ _)); done)); rintro e wa ⟨rfl, hq⟩; (refine (fun (hbq : Below w2.heap.size w2 wa) => ?_) ?_; rotate_left; (focus (refine verThen ?_ hq; (repeat (first | exact Below.refl _ _ | exact (Below.refl _ _).drew | exact hbq | refine verDr ?_ | refine txAl ?_ _)); done))); clear hq)
         | (go_at_call 50; (with_reducible refine (HTB.out _ ?_).mono ?_); (focus ((repeat (first | exact Below.refl _ _ | exact (Below.refl _ _).drew | exact hbq | refine verDr ?_ | refine txAl ?_ _)); done)); rintro e wa ⟨rfl, hq⟩; (refine (fun (hbq : Below w2.heap.size w2 wa) => ?_) ?_; rotate_left; (focus (refine verThen ?_ hq; (repeat (first | exact Below.refl _ _ | exact (Below.refl _ _).drew | exact hbq | refine verDr ?_ | refine txAl ?_ _)); done))); clear hq))
       all_goals
        clear HVa HVb HTA HTB HKP HOA HSZ
        go_wp2_with fail
        go_round
        case rel => exact ⟨k + 1, by omega, by go_num, HNX⟩
        case measure => simp [intOf]; omega
      ·have hB : decide (zb < 1000000000) = false := decide_eq_false (by unfold endR at he; omega)
       have q1 := adds ⟨#[62, 61]⟩ sa (by show 2 + sa.size ≤ 1000; omega)
       clear adds
       have HHE := Lib.hid he
       have HHF := Lib.hid hf
       have HHO := Lib.hid ho
       have HH1 := Lib.hid h12
       have HH2 := Lib.hid h2e
       have HZA := Lib.hid hza
       have HZB := Lib.hid hzb
       clear he hf ho h12 h2e hza hzb
       go_wp2_with fail
       go_quiet (fail)
       rename_i nq
       have HQ1 := hide (HQ.out nq)
       obtain ⟨y0, y1⟩ := HQK.out nq
       clear HQ HQK c0 c1
       generalize ((wr.alloc (.cells #[.int .i64 za, .int .i64 zb] 118)).drewN nq) = w2 at HQ1 y0 y1 ⊢
       go_wp2_with fail
       refine (HVa.out _).mono ?_
       rintro e wa ⟨rfl, hba⟩
       have HB1 := hide (HQ1.out.trans (hba.mono HQ1.out.size))
       clear hba
       go_wp2_with fail
       refine (HTa.out wa (HBW.out.trans (HB1.out.mono HBW.out.size))).mono ?_
       rintro e wb ⟨rfl, hbb⟩
       have HB2 := hide (HB1.out.trans (hbb.mono HB1.out.size))
       clear hbb HB1
       have HOA := hide ((HM.out.own.below HB2.out).below ((Below.refl wb.heap.size wb).alloc (Nat.le_refl _) (.cells #[.string (⟨#[62, 61]⟩ ++ sa)] 9)))
       have HCA := blkS wb (⟨#[62, 61]⟩ ++ sa)
       have HB3 := hide (HB2.out.trans (((Below.refl wb.heap.size wb).alloc (Nat.le_refl _) (.cells #[.string (⟨#[62, 61]⟩ ++ sa)] 9)).mono HB2.out.size))
       have HSZ := Lib.hid (Nat.le_trans HM.out.bel.size HB3.out.size)
       have HX := Lib.hid (show (⟨#[62, 61]⟩ ++ sa) = spB (l.getD k (0, 0)) from bytesT (by have ho := HHO.out; have hf := HHF.out; have he := HHE.out; have h12 := HH1.out; have h2e := HH2.out; rw [HAB.out]; unfold spanT; rw [if_neg (show ¬ b = a + 1 by omega), if_pos (show 0 < a by omega), if_neg (show ¬ b < endR by omega), data_add, HDa.out]))
       go_wp2_with (at_builtin; refine appStr _ rfl _ _ _ rfl w.heap.size Tryz.underlying108 _ ((l.map spB).take k) rfl HOA.out wb.heap.size 1 rfl (⟨#[62, 61]⟩ ++ sa) HCA HLK.out HSZ.out ?_; intro v9 w9 ho9 hg9 hor9; have HNX := hide (HM.out.next HB3.out hk HX.out ho9 hg9); clear ho9 hg9 hor9)
       go_round
       case rel => exact ⟨k + 1, by omega, by go_num, HNX⟩
       case measure => simp [intOf]; omega
     ·have hA : decide (za > 0) = false := decide_eq_false (by omega)
      by_cases he : b < endR
      ·have hB : decide (zb < 1000000000) = true := decide_eq_true (by unfold endR at he; omega)
       have q1 := adds ⟨#[60]⟩ sb (by show 1 + sb.size ≤ 1000; omega)
       clear adds
       have HHE := Lib.hid he
       have HHF := Lib.hid hf
       have HHO := Lib.hid ho
       have HH1 := Lib.hid h12
       have HH2 := Lib.hid h2e
       have HZA := Lib.hid hza
       have HZB := Lib.hid hzb
       clear he hf ho h12 h2e hza hzb
       go_wp2_with fail
       go_quiet (fail)
       rename_i nq
       have HQ1 := hide (HQ.out nq)
       obtain ⟨y0, y1⟩ := HQK.out nq
       clear HQ HQK c0 c1
       generalize ((wr.alloc (.cells #[.int .i64 za, .int .i64 zb] 118)).drewN nq) = w2 at HQ1 y0 y1 ⊢
       go_wp2_with fail
       refine (HVb.out _).mono ?_
       rintro e wa ⟨rfl, hba⟩
       have HB1 := hide (HQ1.out.trans (hba.mono HQ1.out.size))
       clear hba
       go_wp2_with fail
       refine (HTb.out wa (HBW.out.trans (HB1.out.mono HBW.out.size))).mono ?_
       rintro e wb ⟨rfl, hbb⟩
       have HB2 := hide (HB1.out.trans (hbb.mono HB1.out.size))
       clear hbb HB1
       have HOA := hide ((HM.out.own.below HB2.out).below ((Below.refl wb.heap.size wb).alloc (Nat.le_refl _) (.cells #[.string (⟨#[60]⟩ ++ sb)] 9)))
       have HCA := blkS wb (⟨#[60]⟩ ++ sb)
       have HB3 := hide (HB2.out.trans (((Below.refl wb.heap.size wb).alloc (Nat.le_refl _) (.cells #[.string (⟨#[60]⟩ ++ sb)] 9)).mono HB2.out.size))
       have HSZ := Lib.hid (Nat.le_trans HM.out.bel.size HB3.out.size)
       have HX := Lib.hid (show (⟨#[60]⟩ ++ sb) = spB (l.getD k (0, 0)) from bytesT (by have ho := HHO.out; have hf := HHF.out; have he := HHE.out; have h12 := HH1.out; have h2e := HH2.out; rw [HAB.out]; unfold spanT; rw [if_neg (show ¬ b = a + 1 by omega), if_neg (show ¬ 0 < a by omega), if_pos (show b < endR by omega), data_add, HDb.out]))
       go_wp2_with (at_builtin; refine appStr _ rfl _ _ _ rfl w.heap.size Tryz.underlying108 _ ((l.map spB).take k) rfl HOA.out wb.heap.size 1 rfl (⟨#[60]⟩ ++ sb) HCA HLK.out HSZ.out ?_; intro v9 w9 ho9 hg9 hor9; have HNX := hide (HM.out.next HB3.out hk HX.out ho9 hg9); clear ho9 hg9 hor9)
       go_round
       case rel => exact ⟨k + 1, by omega, by go_num, HNX⟩
       case measure => simp [intOf]; omega
      ·have hB : decide (zb < 1000000000) = false := decide_eq_false (by unfold endR at he; omega)
       clear adds
       have HHE := Lib.hid he
       have HHF := Lib.hid hf
       have HHO := Lib.hid ho
       have HH1 := Lib.hid h12
       have HH2 := Lib.hid h2e
       have HZA := Lib.hid hza
       have HZB := Lib.hid hzb
       clear he hf ho h12 h2e hza hzb
       go_wp2_with fail
       go_quiet (fail)
       rename_i nq
       have HQ1 := hide (HQ.out nq)
       obtain ⟨y0, y1⟩ := HQK.out nq
       clear HQ HQK c0 c1
       generalize ((wr.alloc (.cells #[.int .i64 za, .int .i64 zb] 118)).drewN nq) = w2 at HQ1 y0 y1 ⊢
       have HB2 := HQ1
       generalize w2 = wb at HB2 y0 y1 ⊢
       have HOA := hide ((HM.out.own.below HB2.out).below ((Below.refl wb.heap.size wb).alloc (Nat.le_refl _) (.cells #[.string ⟨#[97, 110, 121]⟩] 9)))
       have HCA := blkS wb ⟨#[97, 110, 121]⟩
       have HB3 := hide (HB2.out.trans (((Below.refl wb.heap.size wb).alloc (Nat.le_refl _) (.cells #[.string ⟨#[97, 110, 121]⟩] 9)).mono HB2.out.size))
       have HSZ := Lib.hid (Nat.le_trans HM.out.bel.size HB3.out.size)
       have HX := Lib.hid (show ⟨#[97, 110, 121]⟩ = spB (l.getD k (0, 0)) from bytesT (by have ho := HHO.out; have hf := HHF.out; have he := HHE.out; have h12 := HH1.out; have h2e := HH2.out; rw [HAB.out]; unfold spanT; rw [if_neg (show ¬ b = a + 1 by omega), if_neg (show ¬ 0 < a by omega), if_neg (show ¬ b < endR by omega)]; rfl))
       go_wp2_with (at_builtin; refine appStr _ rfl _ _ _ rfl w.heap.size Tryz.underlying108 _ ((l.map spB).take k) rfl HOA.out wb.heap.size 1 rfl ⟨#[97, 110, 121]⟩ HCA HLK.out HSZ.out ?_; intro v9 w9 ho9 hg9 hor9; have HNX := hide (HM.out.next HB3.out hk HX.out ho9 hg9); clear ho9 hg9 hor9)
       go_round
       case rel => exact ⟨k + 1, by omega, by go_num, HNX⟩
       case measure => simp [intOf]; omega
   ·obtain rfl : k = l.length := by omega
    have hkz : ¬ (l.length : Int) < (l.length : Int) := by omega
    have hown := HM.out.own
    rw [List.take_of_length_le (by simp)] at hown
    have HBX := hide HM.out.bel
    have HOX := hide hown
    rcases hown.2 with ⟨rfl, h0⟩ | ⟨g2, cap2, cur2, rfl, hg2, hgc2, hle2, hcm2, _⟩
    ·rw [List.length_map] at h0
     exact absurd (List.eq_nil_of_length_eq_zero h0) HNE.out
    ·have hcl := hown.cells (g := g2) rfl
     have hbk := (hown.lt g2 rfl).2
     have hLL := HLEN.out
     unfold endR at hLL
     have HJ := hide (Tryz.strings_Join g2 0 cap2 (l.map spB) ⟨#[32, 124, 124, 32]⟩ wr (fun j x hx => by
      have := hcl j (.string x) (by rw [List.getElem?_map, hx]; rfl)
      rw [add0 g2 j] at this
      exact this) hbk (by rw [List.length_map]; omega) hle2 (by
      have := HJL.out
      rw [show (ByteArray.data ⟨#[32, 124, 124, 32]⟩).toList = [32, 124, 124, 32] from rfl]
      omega))
     rw [show (ByteArray.data ⟨#[32, 124, 124, 32]⟩).toList = [32, 124, 124, 32] from rfl, ← HJN.out, List.length_map] at HJ
     rw [List.length_map]
     clear hown hcl HOX hgc2 hle2 hcm2 hbk
     go_wp2_with fail
     refine HJ.out.mono ?_
     rintro e w3 ⟨rfl, hb3⟩
     have HB3 := hide (HBX.out.trans (hb3.mono HBX.out.size))
     clear hb3
     go_wp2
     go_ret
     exact ⟨rfl, HB3.out⟩
end Go.Proofs.YtmncoldaemcnlaaGreatDoor
namespace Go.Proofs.YtmncoldaemcnlaaGreatDoor
open Go.RowKit
set_option maxRecDepth 100000
theorem add_succ (ad : Addr) (j : Nat) : ad.add (j + 1) = ⟨ad.block, ad.off + (j + 1), none⟩ := by
 unfold Addr.add
 split
 ·rename_i h
  omega
 ·rfl
theorem flat_two : ∀ (l : List (Nat × Nat)) (k : Nat), k < l.length → (flat l)[2 * k]? = some (l.getD k (0, 0)).1 ∧ (flat l)[2 * k + 1]? = some (l.getD k (0, 0)).2
 | [], k, h => absurd h (Nat.not_lt_zero _)
 | s :: l, 0, _ => ⟨rfl, rfl⟩
 | s :: l, k + 1, h => by
  have ih := flat_two l k (by simpa using h)
  rw [flat_cons, show 2 * (k + 1) = 2 * k + 1 + 1 by omega]
  simpa using ih
theorem flatI_two (l : List (Nat × Nat)) {k : Nat} (h : k < l.length) : (intsV (flatI l))[2 * k]? = some (.int .i64 ((l.getD k (0, 0)).1 : Int)) ∧ (intsV (flatI l))[2 * k + 1]? = some (.int .i64 ((l.getD k (0, 0)).2 : Int)) := by
 obtain ⟨h1, h2⟩ := flat_two l k h
 unfold intsV flatI
 rw [List.map_map, List.getElem?_map, List.getElem?_map, h1, h2]
 exact ⟨rfl, rfl⟩
theorem refRangeText_none (v : Value) (w : World) (h : OwnI w 0 v (flatI [])) : Calls Tryz.prog 13 #[v] w (RgTxP [] w) := by
 obtain ⟨A, c, rfl⟩ := h.len
 clear h
 go_enter Tryz.func13, Tryz.ntmps13
 rw [show (flatI []).length = 0 from rfl]
 go_wp2_with fail
 go_ret
 exact ⟨rfl, Below.refl _ _⟩
set_option maxHeartbeats 8000000 in
theorem refRangeText_any (v : Value) (l : List (Nat × Nat)) (w : World) (hG : GlobV w) (h : OwnI w 0 v (flatI l)) (hc : CanF 0 l) : Calls Tryz.prog 13 #[v] w (RgTxP l w) := by
 by_cases hl : l = []
 ·subst hl
  exact refRangeText_none v w h
 ·have HLEN := Lib.hid (can_len hc)
  have HJL := Lib.hid (range_len hc)
  have HJN := Lib.hid (rangeT_join hl)
  have HNE := Lib.hid hl
  have HCF := Lib.hid hc.all
  have hflen : (flatI l).length = 2 * l.length := by rw [flatI_len, flat_len]
  have hl0 : 0 < l.length := List.length_pos_iff.2 hl
  clear hl hc
  obtain ⟨A, c, rfl⟩ := h.len
  have hrow := h.row
  rw [hflen] at hrow ⊢
  obtain ⟨N, hN⟩ : ∃ N, N = 2 * l.length := ⟨_, rfl⟩
  rw [← hN] at hrow ⊢
  have hN0 : 0 < N := by omega
  have hNz : ¬ (N : Int) = 0 := by omega
  have hNb : ((N : Int) == 0) = false := beq_eq_false_iff_ne.2 hNz
  have HN := Lib.hid hN
  obtain ⟨ad, _, rfl, _, _, _⟩ := hrow.2.at_ hN0
  have HR := hide hrow
  have HST := hide (show SpTI w l 0 (.slice none 0 0) w from ⟨Below.refl _ _, World.ownsRow_nil _ _ _ _⟩)
  clear h hrow hflen hl0 hN hNz
  go_enter Tryz.func13, Tryz.ntmps13
  go_wp2_with fail
  go_loopw [3, 4] (fun v3 v4 wr => ∃ k j : Nat, j ≤ N ∧ v4 = .int .i64 j ∧ Hid (j = 2 * k) ∧ Hid (SpTI w l k v3 wr)) (fun _ v4 _ => N - (intOf v4).toNat)
  case atStart => exact ⟨0, 0, Nat.zero_le _, rfl, Lib.hid rfl, HST⟩
  case round =>
   clear HST
   obtain ⟨k, j, hj0, rfl, HJK, HM⟩ := hrel
   by_cases hjl : j < N
   ·have hkz : (j : Int) < (N : Int) := by omega
    have hk : k < l.length := by have := HJK.out; have := HN.out; omega
    have hj1 : j + 1 < N := by have := HJK.out; have := HN.out; omega
    have hj1z : (j : Int) + 1 < (N : Int) := by omega
    obtain ⟨_, u, e9, hbl, d1, d2⟩ := HR.out.2.at_ hjl
    obtain ⟨_, u', e9', hbl', d1', d2'⟩ := HR.out.2.at_ hj1
    injection e9 with e9
    injection e9' with e9'
    subst e9 e9'
    obtain ⟨f1, f2⟩ := flatI_two l hk
    rw [← HJK.out] at f1 f2
    rw [f1] at d1
    rw [f2] at d1'
    injection d1 with d1
    injection d1' with d1'
    subst d1 d1'
    have c0 := (HM.out.bel.cell (by rw [block_of_add]; exact hbl)).trans d2
    have c1 := (HM.out.bel.cell (by rw [block_of_add]; exact hbl')).trans d2'
    have hNmax : (N : Int) ≤ 2000000000 := by have := HN.out; have := HLEN.out; unfold endR at this; omega
    obtain ⟨_, h12, h2e⟩ := HCF.out _ (getD_mem l hk)
    have HLK := Lib.hid (show ((l.map spB).take k).length ≤ 4000000000 by rw [List.length_take, List.length_map]; have := HLEN.out; unfold endR at this; omega)
    obtain ⟨a, b, hab⟩ : ∃ a b : Nat, l.getD k (0, 0) = (a, b) := ⟨_, _, rfl⟩
    have HAB := Lib.hid hab
    rw [hab] at c0 c1 h12 h2e
    simp only at c0 c1 h12 h2e
    clear f1 f2 d2 d2' hab hbl hbl'
    have HBW := hide HM.out.bel
    have HVa := hide (fun W (hb : Below w.heap.size w W) => show Calls Tryz.prog 52 #[.int .i64 (a : Int)] W (StrP (verB a) W) from vers_any a (by omega) W (hG.below hb))
    have HVb := hide (fun W (hb : Below w.heap.size w W) => show Calls Tryz.prog 52 #[.int .i64 (b : Int)] W (StrP (verB b) W) from vers_any b (by omega) W (hG.below hb))
    have HVo := hide (fun W (hb : Below w.heap.size w W) => show Calls Tryz.prog 52 #[.int .i64 0] W (StrP (verB 0) W) from vers_any 0 (by omega) W (hG.below hb))
    have hsa := verB_size a (by omega)
    have hsb := verB_size b (by omega)
    have hso := verB_size 0 (by unfold endR; omega)
    have HDa := Lib.hid (verB_data a)
    have HDb := Lib.hid (verB_data b)
    generalize verB a = sa at HVa hsa HDa
    generalize verB b = sb at HVb hsb HDb
    generalize verB 0 = so at HVo hso
    unfold StrP at HVa HVb HVo
    rw [add_succ] at c1
    generalize hza : (a : Int) = za at c0 HVa
    generalize hzb : (b : Int) = zb at c1 HVb
    have haz : 0 ≤ za := by omega
    have haz2 : za ≤ 1000000000 := by unfold endR at h2e; omega
    have hbz0 : 0 ≤ zb := by omega
    have hbz : zb ≤ 1000000000 := by unfold endR at h2e; omega
    have hgr : Hid (∀ n, Below wr.heap.size wr (wr.drewN n)) := Lib.hid (fun n => below_drewN (Below.refl _ _) n)
    have adds : ∀ (a b : ByteArray), a.size + b.size ≤ 1000 → ∀ w : World, (Op.stringOp .add a b).run Tryz.prog w = .ok (.string (a ++ b)) w := fun a b h w => run_string_add_sum (P := Tryz.prog) w a b (by omega)
    by_cases he : b = endR
    ·have hE : (zb == 1000000000) = true := beq_iff_eq.2 (by unfold endR at he; omega)
     have hE2 : zb % 1000000000 = 0 := by unfold endR at he; omega
     by_cases hf : a = 0
     ·have hF : (za == 0) = true := beq_iff_eq.2 (by omega)
      by_cases ho : b = a + 1
      ·have hO : (zb == za + 1) = true := beq_iff_eq.2 (by omega)
       exfalso
       unfold endR at he
       omega
      ·have hO : (zb == za + 1) = false := beq_eq_false_iff_ne.2 (by omega)
       have q1 := adds ⟨#[62, 61]⟩ sa (by show 2 + sa.size ≤ 1000; omega)
       have q2 := adds (⟨#[62, 61]⟩ ++ sa) ⟨#[32, 60]⟩ (by rw [ByteArray.size_append]; show 2 + sa.size + 2 ≤ 1000; omega)
       have q3 := adds (⟨#[62, 61]⟩ ++ sa ++ ⟨#[32, 60]⟩) so (by rw [ByteArray.size_append, ByteArray.size_append]; show 2 + sa.size + 2 + so.size ≤ 1000; omega)
       have q4 := adds ⟨#[60]⟩ so (by show 1 + so.size ≤ 1000; omega)
       clear adds
       have HHE := Lib.hid he
       have HHF := Lib.hid hf
       have HHO := Lib.hid ho
       have HH1 := Lib.hid h12
       have HH2 := Lib.hid h2e
       clear he hf ho h12 h2e
       have HZA := Lib.hid hza
       have HZB := Lib.hid hzb
       clear hza hzb
       have y1 : IntKind.i64.wrap ((j : Int) + 1) = (j : Int) + 1 := IntWalk.i64_in _ (by omega)
       have y2 : (0 : Int) ≤ (j : Int) + 1 := by omega
       have y3 : ((j : Int) + 1).toNat = j + 1 := by omega
       have y4 : (0 : Int) ≤ (j : Int) := by omega
       go_wp2_with fail
       go_quiet (fail)
       clear y1 y2 y3 y4
       rename_i nq
       have HQ := hide (hgr.out nq)
       clear hgr c0 c1
       generalize wr.drewN nq = wq at HQ ⊢
       go_wp2_with fail
       refine (HVa.out _ (HBW.out.trans (HQ.out.mono HBW.out.size))).mono ?_
       rintro e wb ⟨rfl, hbb⟩
       have HQ2 := hide (HQ.out.trans (hbb.mono HQ.out.size))
       clear hbb HQ
       have HQ := HQ2
       clear HQ2
       go_wp2_with fail
       refine (HVo.out _ (HBW.out.trans (HQ.out.mono HBW.out.size))).mono ?_
       rintro e wb ⟨rfl, hbb⟩
       have HQ2 := hide (HQ.out.trans (hbb.mono HQ.out.size))
       clear hbb HQ
       have HQ := HQ2
       clear HQ2
       go_wp2_with fail
       refine (HVa.out _ (HBW.out.trans (HQ.out.mono HBW.out.size))).mono ?_
       rintro e wb ⟨rfl, hbb⟩
       have HQ2 := hide (HQ.out.trans (hbb.mono HQ.out.size))
       clear hbb HQ
       have HQ := HQ2
       clear HQ2
       go_wp2_with fail
       refine (HVo.out _ (HBW.out.trans (HQ.out.mono HBW.out.size))).mono ?_
       rintro e wb ⟨rfl, hbb⟩
       have HQ2 := hide (HQ.out.trans (hbb.mono HQ.out.size))
       clear hbb HQ
       have HQ := HQ2
       clear HQ2
       have HOA := hide ((HM.out.own.below HQ.out).below ((Below.refl wb.heap.size wb).alloc (Nat.le_refl _) (.cells #[.string ⟨#[97, 110, 121]⟩] 9)))
       have HCA := blkS wb ⟨#[97, 110, 121]⟩
       have HB3 := hide (HQ.out.trans (((Below.refl wb.heap.size wb).alloc (Nat.le_refl _) (.cells #[.string ⟨#[97, 110, 121]⟩] 9)).mono HQ.out.size))
       have HSZ := Lib.hid (Nat.le_trans HM.out.bel.size HB3.out.size)
       have HX := Lib.hid (show ⟨#[97, 110, 121]⟩ = spB (l.getD k (0, 0)) from bytesT (by have he := HHE.out; have hf := HHF.out; have ho := HHO.out; have h12 := HH1.out; have h2e := HH2.out; rw [HAB.out]; unfold spanT; rw [if_neg (show ¬ b = a + 1 by omega), if_neg (show ¬ 0 < a by omega), if_neg (show ¬ b < endR by omega)]; rfl))
       go_wp2_with (at_builtin; refine appStr _ rfl _ _ _ rfl w.heap.size Tryz.underlying108 _ ((l.map spB).take k) rfl HOA.out wb.heap.size 1 rfl ⟨#[97, 110, 121]⟩ HCA HLK.out HSZ.out ?_; intro v9 w9 ho9 hg9 hor9; have HNX := hide (HM.out.next HB3.out hk HX.out ho9 hg9); clear ho9 hg9 hor9)
       go_round
       case rel => exact ⟨k + 1, j + 2, by omega, by go_num, Lib.hid (by have := HJK.out; omega), HNX⟩
       case measure => simp [intOf]; omega
     ·have hF : (za == 0) = false := beq_eq_false_iff_ne.2 (by omega)
      by_cases ho : b = a + 1
      ·have hO : (zb == za + 1) = true := beq_iff_eq.2 (by omega)
       have q1 := adds ⟨#[62, 61]⟩ sa (by show 2 + sa.size ≤ 1000; omega)
       have q2 := adds (⟨#[62, 61]⟩ ++ sa) ⟨#[32, 60]⟩ (by rw [ByteArray.size_append]; show 2 + sa.size + 2 ≤ 1000; omega)
       have q3 := adds (⟨#[62, 61]⟩ ++ sa ++ ⟨#[32, 60]⟩) so (by rw [ByteArray.size_append, ByteArray.size_append]; show 2 + sa.size + 2 + so.size ≤ 1000; omega)
       have q4 := adds ⟨#[60]⟩ so (by show 1 + so.size ≤ 1000; omega)
       clear adds
       have HHE := Lib.hid he
       have HHF := Lib.hid hf
       have HHO := Lib.hid ho
       have HH1 := Lib.hid h12
       have HH2 := Lib.hid h2e
       clear he hf ho h12 h2e
       have HZA := Lib.hid hza
       have HZB := Lib.hid hzb
       clear hza hzb
       have y1 : IntKind.i64.wrap ((j : Int) + 1) = (j : Int) + 1 := IntWalk.i64_in _ (by omega)
       have y2 : (0 : Int) ≤ (j : Int) + 1 := by omega
       have y3 : ((j : Int) + 1).toNat = j + 1 := by omega
       have y4 : (0 : Int) ≤ (j : Int) := by omega
       go_wp2_with fail
       go_quiet (fail)
       clear y1 y2 y3 y4
       rename_i nq
       have HQ := hide (hgr.out nq)
       clear hgr c0 c1
       generalize wr.drewN nq = wq at HQ ⊢
       go_wp2_with fail
       refine (HVa.out _ (HBW.out.trans (HQ.out.mono HBW.out.size))).mono ?_
       rintro e wb ⟨rfl, hbb⟩
       have HQ2 := hide (HQ.out.trans (hbb.mono HQ.out.size))
       clear hbb HQ
       have HQ := HQ2
       clear HQ2
       go_wp2_with fail
       refine (HVo.out _ (HBW.out.trans (HQ.out.mono HBW.out.size))).mono ?_
       rintro e wb ⟨rfl, hbb⟩
       have HQ2 := hide (HQ.out.trans (hbb.mono HQ.out.size))
       clear hbb HQ
       have HQ := HQ2
       clear HQ2
       go_wp2_with fail
       refine (HVa.out _ (HBW.out.trans (HQ.out.mono HBW.out.size))).mono ?_
       rintro e wb ⟨rfl, hbb⟩
       have HQ2 := hide (HQ.out.trans (hbb.mono HQ.out.size))
       clear hbb HQ
       have HQ := HQ2
       clear HQ2
       go_wp2_with fail
       refine (HVa.out _ (HBW.out.trans (HQ.out.mono HBW.out.size))).mono ?_
       rintro e wb ⟨rfl, hbb⟩
       have HQ2 := hide (HQ.out.trans (hbb.mono HQ.out.size))
       clear hbb HQ
       have HQ := HQ2
       clear HQ2
       have HOA := hide ((HM.out.own.below HQ.out).below ((Below.refl wb.heap.size wb).alloc (Nat.le_refl _) (.cells #[.string sa] 9)))
       have HCA := blkS wb sa
       have HB3 := hide (HQ.out.trans (((Below.refl wb.heap.size wb).alloc (Nat.le_refl _) (.cells #[.string sa] 9)).mono HQ.out.size))
       have HSZ := Lib.hid (Nat.le_trans HM.out.bel.size HB3.out.size)
       have HX := Lib.hid (show sa = spB (l.getD k (0, 0)) from bytesT (by have he := HHE.out; have hf := HHF.out; have ho := HHO.out; have h12 := HH1.out; have h2e := HH2.out; rw [HAB.out]; unfold spanT; rw [if_pos (show b = a + 1 by omega), HDa.out]))
       go_wp2_with (at_builtin; refine appStr _ rfl _ _ _ rfl w.heap.size Tryz.underlying108 _ ((l.map spB).take k) rfl HOA.out wb.heap.size 1 rfl sa HCA HLK.out HSZ.out ?_; intro v9 w9 ho9 hg9 hor9; have HNX := hide (HM.out.next HB3.out hk HX.out ho9 hg9); clear ho9 hg9 hor9)
       go_round
       case rel => exact ⟨k + 1, j + 2, by omega, by go_num, Lib.hid (by have := HJK.out; omega), HNX⟩
       case measure => simp [intOf]; omega
      ·have hO : (zb == za + 1) = false := beq_eq_false_iff_ne.2 (by omega)
       have q1 := adds ⟨#[62, 61]⟩ sa (by show 2 + sa.size ≤ 1000; omega)
       have q2 := adds (⟨#[62, 61]⟩ ++ sa) ⟨#[32, 60]⟩ (by rw [ByteArray.size_append]; show 2 + sa.size + 2 ≤ 1000; omega)
       have q3 := adds (⟨#[62, 61]⟩ ++ sa ++ ⟨#[32, 60]⟩) so (by rw [ByteArray.size_append, ByteArray.size_append]; show 2 + sa.size + 2 + so.size ≤ 1000; omega)
       have q4 := adds ⟨#[60]⟩ so (by show 1 + so.size ≤ 1000; omega)
       clear adds
       have HHE := Lib.hid he
       have HHF := Lib.hid hf
       have HHO := Lib.hid ho
       have HH1 := Lib.hid h12
       have HH2 := Lib.hid h2e
       clear he hf ho h12 h2e
       have HZA := Lib.hid hza
       have HZB := Lib.hid hzb
       clear hza hzb
       have y1 : IntKind.i64.wrap ((j : Int) + 1) = (j : Int) + 1 := IntWalk.i64_in _ (by omega)
       have y2 : (0 : Int) ≤ (j : Int) + 1 := by omega
       have y3 : ((j : Int) + 1).toNat = j + 1 := by omega
       have y4 : (0 : Int) ≤ (j : Int) := by omega
       go_wp2_with fail
       go_quiet (fail)
       clear y1 y2 y3 y4
       rename_i nq
       have HQ := hide (hgr.out nq)
       clear hgr c0 c1
       generalize wr.drewN nq = wq at HQ ⊢
       go_wp2_with fail
       refine (HVa.out _ (HBW.out.trans (HQ.out.mono HBW.out.size))).mono ?_
       rintro e wb ⟨rfl, hbb⟩
       have HQ2 := hide (HQ.out.trans (hbb.mono HQ.out.size))
       clear hbb HQ
       have HQ := HQ2
       clear HQ2
       go_wp2_with fail
       refine (HVo.out _ (HBW.out.trans (HQ.out.mono HBW.out.size))).mono ?_
       rintro e wb ⟨rfl, hbb⟩
       have HQ2 := hide (HQ.out.trans (hbb.mono HQ.out.size))
       clear hbb HQ
       have HQ := HQ2
       clear HQ2
       go_wp2_with fail
       refine (HVa.out _ (HBW.out.trans (HQ.out.mono HBW.out.size))).mono ?_
       rintro e wb ⟨rfl, hbb⟩
       have HQ2 := hide (HQ.out.trans (hbb.mono HQ.out.size))
       clear hbb HQ
       have HQ := HQ2
       clear HQ2
       have HOA := hide ((HM.out.own.below HQ.out).below ((Below.refl wb.heap.size wb).alloc (Nat.le_refl _) (.cells #[.string (⟨#[62, 61]⟩ ++ sa)] 9)))
       have HCA := blkS wb (⟨#[62, 61]⟩ ++ sa)
       have HB3 := hide (HQ.out.trans (((Below.refl wb.heap.size wb).alloc (Nat.le_refl _) (.cells #[.string (⟨#[62, 61]⟩ ++ sa)] 9)).mono HQ.out.size))
       have HSZ := Lib.hid (Nat.le_trans HM.out.bel.size HB3.out.size)
       have HX := Lib.hid (show (⟨#[62, 61]⟩ ++ sa) = spB (l.getD k (0, 0)) from bytesT (by have he := HHE.out; have hf := HHF.out; have ho := HHO.out; have h12 := HH1.out; have h2e := HH2.out; rw [HAB.out]; unfold spanT; rw [if_neg (show ¬ b = a + 1 by omega), if_pos (show 0 < a by omega), if_neg (show ¬ b < endR by omega), data_add, HDa.out]))
       go_wp2_with (at_builtin; refine appStr _ rfl _ _ _ rfl w.heap.size Tryz.underlying108 _ ((l.map spB).take k) rfl HOA.out wb.heap.size 1 rfl (⟨#[62, 61]⟩ ++ sa) HCA HLK.out HSZ.out ?_; intro v9 w9 ho9 hg9 hor9; have HNX := hide (HM.out.next HB3.out hk HX.out ho9 hg9); clear ho9 hg9 hor9)
       go_round
       case rel => exact ⟨k + 1, j + 2, by omega, by go_num, Lib.hid (by have := HJK.out; omega), HNX⟩
       case measure => simp [intOf]; omega
    ·have hE : (zb == 1000000000) = false := beq_eq_false_iff_ne.2 (by unfold endR at he; omega)
     have hE2 : zb % 1000000000 = zb := by unfold endR at he h2e; omega
     by_cases hf : a = 0
     ·have hF : (za == 0) = true := beq_iff_eq.2 (by omega)
      by_cases ho : b = a + 1
      ·have hO : (zb == za + 1) = true := beq_iff_eq.2 (by omega)
       have q1 := adds ⟨#[62, 61]⟩ sa (by show 2 + sa.size ≤ 1000; omega)
       have q2 := adds (⟨#[62, 61]⟩ ++ sa) ⟨#[32, 60]⟩ (by rw [ByteArray.size_append]; show 2 + sa.size + 2 ≤ 1000; omega)
       have q3 := adds (⟨#[62, 61]⟩ ++ sa ++ ⟨#[32, 60]⟩) sb (by rw [ByteArray.size_append, ByteArray.size_append]; show 2 + sa.size + 2 + sb.size ≤ 1000; omega)
       have q4 := adds ⟨#[60]⟩ sb (by show 1 + sb.size ≤ 1000; omega)
       clear adds
       have HHE := Lib.hid he
       have HHF := Lib.hid hf
       have HHO := Lib.hid ho
       have HH1 := Lib.hid h12
       have HH2 := Lib.hid h2e
       clear he hf ho h12 h2e
       have HZA := Lib.hid hza
       have HZB := Lib.hid hzb
       clear hza hzb
       have y1 : IntKind.i64.wrap ((j : Int) + 1) = (j : Int) + 1 := IntWalk.i64_in _ (by omega)
       have y2 : (0 : Int) ≤ (j : Int) + 1 := by omega
       have y3 : ((j : Int) + 1).toNat = j + 1 := by omega
       have y4 : (0 : Int) ≤ (j : Int) := by omega
       go_wp2_with fail
       go_quiet (fail)
       clear y1 y2 y3 y4
       rename_i nq
       have HQ := hide (hgr.out nq)
       clear hgr c0 c1
       generalize wr.drewN nq = wq at HQ ⊢
       go_wp2_with fail
       refine (HVa.out _ (HBW.out.trans (HQ.out.mono HBW.out.size))).mono ?_
       rintro e wb ⟨rfl, hbb⟩
       have HQ2 := hide (HQ.out.trans (hbb.mono HQ.out.size))
       clear hbb HQ
       have HQ := HQ2
       clear HQ2
       go_wp2_with fail
       refine (HVb.out _ (HBW.out.trans (HQ.out.mono HBW.out.size))).mono ?_
       rintro e wb ⟨rfl, hbb⟩
       have HQ2 := hide (HQ.out.trans (hbb.mono HQ.out.size))
       clear hbb HQ
       have HQ := HQ2
       clear HQ2
       go_wp2_with fail
       refine (HVb.out _ (HBW.out.trans (HQ.out.mono HBW.out.size))).mono ?_
       rintro e wb ⟨rfl, hbb⟩
       have HQ2 := hide (HQ.out.trans (hbb.mono HQ.out.size))
       clear hbb HQ
       have HQ := HQ2
       clear HQ2
       go_wp2_with fail
       refine (HVa.out _ (HBW.out.trans (HQ.out.mono HBW.out.size))).mono ?_
       rintro e wb ⟨rfl, hbb⟩
       have HQ2 := hide (HQ.out.trans (hbb.mono HQ.out.size))
       clear hbb HQ
       have HQ := HQ2
       clear HQ2
       have HOA := hide ((HM.out.own.below HQ.out).below ((Below.refl wb.heap.size wb).alloc (Nat.le_refl _) (.cells #[.string sa] 9)))
       have HCA := blkS wb sa
       have HB3 := hide (HQ.out.trans (((Below.refl wb.heap.size wb).alloc (Nat.le_refl _) (.cells #[.string sa] 9)).mono HQ.out.size))
       have HSZ := Lib.hid (Nat.le_trans HM.out.bel.size HB3.out.size)
       have HX := Lib.hid (show sa = spB (l.getD k (0, 0)) from bytesT (by have he := HHE.out; have hf := HHF.out; have ho := HHO.out; have h12 := HH1.out; have h2e := HH2.out; rw [HAB.out]; unfold spanT; rw [if_pos (show b = a + 1 by omega), HDa.out]))
       go_wp2_with (at_builtin; refine appStr _ rfl _ _ _ rfl w.heap.size Tryz.underlying108 _ ((l.map spB).take k) rfl HOA.out wb.heap.size 1 rfl sa HCA HLK.out HSZ.out ?_; intro v9 w9 ho9 hg9 hor9; have HNX := hide (HM.out.next HB3.out hk HX.out ho9 hg9); clear ho9 hg9 hor9)
       go_round
       case rel => exact ⟨k + 1, j + 2, by omega, by go_num, Lib.hid (by have := HJK.out; omega), HNX⟩
       case measure => simp [intOf]; omega
      ·have hO : (zb == za + 1) = false := beq_eq_false_iff_ne.2 (by omega)
       have q1 := adds ⟨#[62, 61]⟩ sa (by show 2 + sa.size ≤ 1000; omega)
       have q2 := adds (⟨#[62, 61]⟩ ++ sa) ⟨#[32, 60]⟩ (by rw [ByteArray.size_append]; show 2 + sa.size + 2 ≤ 1000; omega)
       have q3 := adds (⟨#[62, 61]⟩ ++ sa ++ ⟨#[32, 60]⟩) sb (by rw [ByteArray.size_append, ByteArray.size_append]; show 2 + sa.size + 2 + sb.size ≤ 1000; omega)
       have q4 := adds ⟨#[60]⟩ sb (by show 1 + sb.size ≤ 1000; omega)
       clear adds
       have HHE := Lib.hid he
       have HHF := Lib.hid hf
       have HHO := Lib.hid ho
       have HH1 := Lib.hid h12
       have HH2 := Lib.hid h2e
       clear he hf ho h12 h2e
       have HZA := Lib.hid hza
       have HZB := Lib.hid hzb
       clear hza hzb
       have y1 : IntKind.i64.wrap ((j : Int) + 1) = (j : Int) + 1 := IntWalk.i64_in _ (by omega)
       have y2 : (0 : Int) ≤ (j : Int) + 1 := by omega
       have y3 : ((j : Int) + 1).toNat = j + 1 := by omega
       have y4 : (0 : Int) ≤ (j : Int) := by omega
       go_wp2_with fail
       go_quiet (fail)
       clear y1 y2 y3 y4
       rename_i nq
       have HQ := hide (hgr.out nq)
       clear hgr c0 c1
       generalize wr.drewN nq = wq at HQ ⊢
       go_wp2_with fail
       refine (HVa.out _ (HBW.out.trans (HQ.out.mono HBW.out.size))).mono ?_
       rintro e wb ⟨rfl, hbb⟩
       have HQ2 := hide (HQ.out.trans (hbb.mono HQ.out.size))
       clear hbb HQ
       have HQ := HQ2
       clear HQ2
       go_wp2_with fail
       refine (HVb.out _ (HBW.out.trans (HQ.out.mono HBW.out.size))).mono ?_
       rintro e wb ⟨rfl, hbb⟩
       have HQ2 := hide (HQ.out.trans (hbb.mono HQ.out.size))
       clear hbb HQ
       have HQ := HQ2
       clear HQ2
       go_wp2_with fail
       refine (HVb.out _ (HBW.out.trans (HQ.out.mono HBW.out.size))).mono ?_
       rintro e wb ⟨rfl, hbb⟩
       have HQ2 := hide (HQ.out.trans (hbb.mono HQ.out.size))
       clear hbb HQ
       have HQ := HQ2
       clear HQ2
       have HOA := hide ((HM.out.own.below HQ.out).below ((Below.refl wb.heap.size wb).alloc (Nat.le_refl _) (.cells #[.string (⟨#[60]⟩ ++ sb)] 9)))
       have HCA := blkS wb (⟨#[60]⟩ ++ sb)
       have HB3 := hide (HQ.out.trans (((Below.refl wb.heap.size wb).alloc (Nat.le_refl _) (.cells #[.string (⟨#[60]⟩ ++ sb)] 9)).mono HQ.out.size))
       have HSZ := Lib.hid (Nat.le_trans HM.out.bel.size HB3.out.size)
       have HX := Lib.hid (show (⟨#[60]⟩ ++ sb) = spB (l.getD k (0, 0)) from bytesT (by have he := HHE.out; have hf := HHF.out; have ho := HHO.out; have h12 := HH1.out; have h2e := HH2.out; rw [HAB.out]; unfold spanT; rw [if_neg (show ¬ b = a + 1 by omega), if_neg (show ¬ 0 < a by omega), if_pos (show b < endR by omega), data_add, HDb.out]))
       go_wp2_with (at_builtin; refine appStr _ rfl _ _ _ rfl w.heap.size Tryz.underlying108 _ ((l.map spB).take k) rfl HOA.out wb.heap.size 1 rfl (⟨#[60]⟩ ++ sb) HCA HLK.out HSZ.out ?_; intro v9 w9 ho9 hg9 hor9; have HNX := hide (HM.out.next HB3.out hk HX.out ho9 hg9); clear ho9 hg9 hor9)
       go_round
       case rel => exact ⟨k + 1, j + 2, by omega, by go_num, Lib.hid (by have := HJK.out; omega), HNX⟩
       case measure => simp [intOf]; omega
     ·have hF : (za == 0) = false := beq_eq_false_iff_ne.2 (by omega)
      by_cases ho : b = a + 1
      ·have hO : (zb == za + 1) = true := beq_iff_eq.2 (by omega)
       have q1 := adds ⟨#[62, 61]⟩ sa (by show 2 + sa.size ≤ 1000; omega)
       have q2 := adds (⟨#[62, 61]⟩ ++ sa) ⟨#[32, 60]⟩ (by rw [ByteArray.size_append]; show 2 + sa.size + 2 ≤ 1000; omega)
       have q3 := adds (⟨#[62, 61]⟩ ++ sa ++ ⟨#[32, 60]⟩) sb (by rw [ByteArray.size_append, ByteArray.size_append]; show 2 + sa.size + 2 + sb.size ≤ 1000; omega)
       have q4 := adds ⟨#[60]⟩ sb (by show 1 + sb.size ≤ 1000; omega)
       clear adds
       have HHE := Lib.hid he
       have HHF := Lib.hid hf
       have HHO := Lib.hid ho
       have HH1 := Lib.hid h12
       have HH2 := Lib.hid h2e
       clear he hf ho h12 h2e
       have HZA := Lib.hid hza
       have HZB := Lib.hid hzb
       clear hza hzb
       have y1 : IntKind.i64.wrap ((j : Int) + 1) = (j : Int) + 1 := IntWalk.i64_in _ (by omega)
       have y2 : (0 : Int) ≤ (j : Int) + 1 := by omega
       have y3 : ((j : Int) + 1).toNat = j + 1 := by omega
       have y4 : (0 : Int) ≤ (j : Int) := by omega
       go_wp2_with fail
       go_quiet (fail)
       clear y1 y2 y3 y4
       rename_i nq
       have HQ := hide (hgr.out nq)
       clear hgr c0 c1
       generalize wr.drewN nq = wq at HQ ⊢
       go_wp2_with fail
       refine (HVa.out _ (HBW.out.trans (HQ.out.mono HBW.out.size))).mono ?_
       rintro e wb ⟨rfl, hbb⟩
       have HQ2 := hide (HQ.out.trans (hbb.mono HQ.out.size))
       clear hbb HQ
       have HQ := HQ2
       clear HQ2
       go_wp2_with fail
       refine (HVb.out _ (HBW.out.trans (HQ.out.mono HBW.out.size))).mono ?_
       rintro e wb ⟨rfl, hbb⟩
       have HQ2 := hide (HQ.out.trans (hbb.mono HQ.out.size))
       clear hbb HQ
       have HQ := HQ2
       clear HQ2
       go_wp2_with fail
       refine (HVa.out _ (HBW.out.trans (HQ.out.mono HBW.out.size))).mono ?_
       rintro e wb ⟨rfl, hbb⟩
       have HQ2 := hide (HQ.out.trans (hbb.mono HQ.out.size))
       clear hbb HQ
       have HQ := HQ2
       clear HQ2
       have HOA := hide ((HM.out.own.below HQ.out).below ((Below.refl wb.heap.size wb).alloc (Nat.le_refl _) (.cells #[.string sa] 9)))
       have HCA := blkS wb sa
       have HB3 := hide (HQ.out.trans (((Below.refl wb.heap.size wb).alloc (Nat.le_refl _) (.cells #[.string sa] 9)).mono HQ.out.size))
       have HSZ := Lib.hid (Nat.le_trans HM.out.bel.size HB3.out.size)
       have HX := Lib.hid (show sa = spB (l.getD k (0, 0)) from bytesT (by have he := HHE.out; have hf := HHF.out; have ho := HHO.out; have h12 := HH1.out; have h2e := HH2.out; rw [HAB.out]; unfold spanT; rw [if_pos (show b = a + 1 by omega), HDa.out]))
       go_wp2_with (at_builtin; refine appStr _ rfl _ _ _ rfl w.heap.size Tryz.underlying108 _ ((l.map spB).take k) rfl HOA.out wb.heap.size 1 rfl sa HCA HLK.out HSZ.out ?_; intro v9 w9 ho9 hg9 hor9; have HNX := hide (HM.out.next HB3.out hk HX.out ho9 hg9); clear ho9 hg9 hor9)
       go_round
       case rel => exact ⟨k + 1, j + 2, by omega, by go_num, Lib.hid (by have := HJK.out; omega), HNX⟩
       case measure => simp [intOf]; omega
      ·have hO : (zb == za + 1) = false := beq_eq_false_iff_ne.2 (by omega)
       have q1 := adds ⟨#[62, 61]⟩ sa (by show 2 + sa.size ≤ 1000; omega)
       have q2 := adds (⟨#[62, 61]⟩ ++ sa) ⟨#[32, 60]⟩ (by rw [ByteArray.size_append]; show 2 + sa.size + 2 ≤ 1000; omega)
       have q3 := adds (⟨#[62, 61]⟩ ++ sa ++ ⟨#[32, 60]⟩) sb (by rw [ByteArray.size_append, ByteArray.size_append]; show 2 + sa.size + 2 + sb.size ≤ 1000; omega)
       have q4 := adds ⟨#[60]⟩ sb (by show 1 + sb.size ≤ 1000; omega)
       clear adds
       have HHE := Lib.hid he
       have HHF := Lib.hid hf
       have HHO := Lib.hid ho
       have HH1 := Lib.hid h12
       have HH2 := Lib.hid h2e
       clear he hf ho h12 h2e
       have HZA := Lib.hid hza
       have HZB := Lib.hid hzb
       clear hza hzb
       have y1 : IntKind.i64.wrap ((j : Int) + 1) = (j : Int) + 1 := IntWalk.i64_in _ (by omega)
       have y2 : (0 : Int) ≤ (j : Int) + 1 := by omega
       have y3 : ((j : Int) + 1).toNat = j + 1 := by omega
       have y4 : (0 : Int) ≤ (j : Int) := by omega
       go_wp2_with fail
       go_quiet (fail)
       clear y1 y2 y3 y4
       rename_i nq
       have HQ := hide (hgr.out nq)
       clear hgr c0 c1
       generalize wr.drewN nq = wq at HQ ⊢
       go_wp2_with fail
       refine (HVa.out _ (HBW.out.trans (HQ.out.mono HBW.out.size))).mono ?_
       rintro e wb ⟨rfl, hbb⟩
       have HQ2 := hide (HQ.out.trans (hbb.mono HQ.out.size))
       clear hbb HQ
       have HQ := HQ2
       clear HQ2
       go_wp2_with fail
       refine (HVb.out _ (HBW.out.trans (HQ.out.mono HBW.out.size))).mono ?_
       rintro e wb ⟨rfl, hbb⟩
       have HQ2 := hide (HQ.out.trans (hbb.mono HQ.out.size))
       clear hbb HQ
       have HQ := HQ2
       clear HQ2
       have HOA := hide ((HM.out.own.below HQ.out).below ((Below.refl wb.heap.size wb).alloc (Nat.le_refl _) (.cells #[.string (⟨#[62, 61]⟩ ++ sa ++ ⟨#[32, 60]⟩ ++ sb)] 9)))
       have HCA := blkS wb (⟨#[62, 61]⟩ ++ sa ++ ⟨#[32, 60]⟩ ++ sb)
       have HB3 := hide (HQ.out.trans (((Below.refl wb.heap.size wb).alloc (Nat.le_refl _) (.cells #[.string (⟨#[62, 61]⟩ ++ sa ++ ⟨#[32, 60]⟩ ++ sb)] 9)).mono HQ.out.size))
       have HSZ := Lib.hid (Nat.le_trans HM.out.bel.size HB3.out.size)
       have HX := Lib.hid (show (⟨#[62, 61]⟩ ++ sa ++ ⟨#[32, 60]⟩ ++ sb) = spB (l.getD k (0, 0)) from bytesT (by have he := HHE.out; have hf := HHF.out; have ho := HHO.out; have h12 := HH1.out; have h2e := HH2.out; rw [HAB.out]; unfold spanT; rw [if_neg (show ¬ b = a + 1 by omega), if_pos (show 0 < a by omega), if_pos (show b < endR by omega), data_add, data_add, data_add, HDa.out, HDb.out]))
       go_wp2_with (at_builtin; refine appStr _ rfl _ _ _ rfl w.heap.size Tryz.underlying108 _ ((l.map spB).take k) rfl HOA.out wb.heap.size 1 rfl (⟨#[62, 61]⟩ ++ sa ++ ⟨#[32, 60]⟩ ++ sb) HCA HLK.out HSZ.out ?_; intro v9 w9 ho9 hg9 hor9; have HNX := hide (HM.out.next HB3.out hk HX.out ho9 hg9); clear ho9 hg9 hor9)
       go_round
       case rel => exact ⟨k + 1, j + 2, by omega, by go_num, Lib.hid (by have := HJK.out; omega), HNX⟩
       case measure => simp [intOf]; omega
   ·obtain rfl : j = N := by omega
    have hkz : ¬ (j : Int) < (j : Int) := by omega
    obtain rfl : k = l.length := by have := HJK.out; have := HN.out; omega
    have hown := HM.out.own
    rw [List.take_of_length_le (by simp)] at hown
    have HBX := hide HM.out.bel
    rcases hown.2 with ⟨rfl, h0⟩ | ⟨g2, cap2, cur2, rfl, hg2, hgc2, hle2, hcm2, _⟩
    ·rw [List.length_map] at h0
     exact absurd (List.eq_nil_of_length_eq_zero h0) HNE.out
    ·have hcl := hown.cells (g := g2) rfl
     have hbk := (hown.lt g2 rfl).2
     have hLL := HLEN.out
     unfold endR at hLL
     have HJ := hide (Tryz.strings_Join g2 0 cap2 (l.map spB) ⟨#[32, 124, 124, 32]⟩ wr (fun j x hx => by
      have := hcl j (.string x) (by rw [List.getElem?_map, hx]; rfl)
      rw [add0 g2 j] at this
      exact this) hbk (by rw [List.length_map]; omega) hle2 (by
      have := HJL.out
      rw [show (ByteArray.data ⟨#[32, 124, 124, 32]⟩).toList = [32, 124, 124, 32] from rfl]
      omega))
     rw [show (ByteArray.data ⟨#[32, 124, 124, 32]⟩).toList = [32, 124, 124, 32] from rfl, ← HJN.out, List.length_map] at HJ
     rw [List.length_map]
     clear hown hcl hgc2 hle2 hcm2 hbk
     go_wp2_with fail
     refine HJ.out.mono ?_
     rintro e w3 ⟨rfl, hb3⟩
     have HB3 := hide (HBX.out.trans (hb3.mono HBX.out.size))
     clear hb3
     go_wp2
     go_ret
     exact ⟨rfl, HB3.out⟩
end Go.Proofs.YtmncoldaemcnlaaGreatDoor
