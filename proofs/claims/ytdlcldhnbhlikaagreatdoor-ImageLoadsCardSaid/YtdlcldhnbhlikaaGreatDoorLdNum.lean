/-
  A text's pieces, in memory; a line's words as numbers.
-/
import Derived.Test.YtdlcldhnbhlikaaGreatDoorLdPure
import Derived.Test.YtdlcldhnbhlikaaGreatDoorArenaReach
namespace Go.Proofs.YtdlcldhnbhlikaaGreatDoor
open Go.RowKit

theorem atoiL_any (s : ByteArray) (w : World) (hG : GlobV w) (hs : s.size ≤ 100000) : Calls Tryz.prog 63 #[.string s] w (ReadP s.data.toList w) := by
  obtain ⟨t1, p1, h1⟩ := hG.syn
  obtain ⟨t2, p2, h2⟩ := hG.rng
  by_cases h : ∃ v, Lib.atoiAll s.data.toList = .ok v
  · obtain ⟨v, h⟩ := h
    refine (Tryz.strconv_Atoi_ok s (by omega) v h w).mono ?_
    rintro e w' ⟨rfl, hw⟩
    refine ⟨.inl ⟨v, h, i64_atoi h, rfl⟩, ?_⟩
    rcases hw with rfl | ⟨t, rfl⟩
    · exact Below.refl _ _
    · exact Lib.bytesWorld_below _ _ _
  · by_cases h3 : Lib.atoiAll s.data.toList = .range
    · refine (Tryz.strconv_Atoi_range s (by omega) h3 _ w h2 (.inr ⟨_, _, rfl⟩)).mono ?_
      rintro e w' ⟨N, rfl, _, _, hb⟩
      exact ⟨.inr ⟨numF_range h3, _, _, _, rfl⟩, hb⟩
    · refine (Any.strconv_Atoi_syntax Tryz.laysC172 s (by omega) (no_num h h3) _ w h1 (.inr ⟨_, _, rfl⟩)).mono ?_
      rintro e w' ⟨N, rfl, _, _, hb⟩
      exact ⟨.inr ⟨numF_no h, _, _, _, rfl⟩, hb⟩
/-- Texts that lie in a row. -/
structure StrsP (w : World) (b o : Nat) (ws : List ByteArray) : Prop where
  lt : b < w.heap.size
  at_ : ∀ j, j < ws.length → w.cell? ⟨b, o + j, none⟩ = some (.string (ws.getD j ⟨#[]⟩))
theorem StrsP.below {w w' : World} {b o : Nat} {ws : List ByteArray} (h : StrsP w b o ws) (hb : Below w.heap.size w w') : StrsP w' b o ws :=
  ⟨Nat.lt_of_lt_of_le h.lt hb.size, fun j hj => (hb.cell (p := ⟨b, o + j, none⟩) h.lt).trans (h.at_ j hj)⟩
def PcsP (c : UInt8) (s : ByteArray) (w : World) (e : Ending) (w' : World) : Prop :=
  e = .returned (.slice (some ⟨w.heap.size, 0, none⟩) (pcs c s).length (pcs c s).length) ∧ Blk w' w.heap.size 9 ((pcs c s).map Value.string).toArray ∧ Below w.heap.size w w'
theorem splitL_any (c : UInt8) (s : ByteArray) (w : World) (hG : GlobV w) (hs : s.size ≤ 100000) : Calls Tryz.prog 61 #[.string s, .string ⟨#[c]⟩] w (PcsP c s w) := by
  obtain ⟨m, hm⟩ := hG.mx
  refine (Tryz.strings_Split s ⟨#[c]⟩ m w (by omega) hm (by show 1 ≤ 1; omega)).mono ?_
  rintro e w' ⟨rfl, rfl⟩
  exact ⟨by rw [pcs_len], Blk.new w 9 _, (Below.refl _ _).alloc (Nat.le_refl _) _⟩
theorem strs_blk {w : World} {b : Nat} {ws : List ByteArray} (h : Blk w b 9 (ws.map Value.string).toArray) : StrsP w b 0 ws := by
  refine ⟨h.lt, fun j hj => (h.cell (0 + j)).trans ?_⟩
  rw [Nat.zero_add, List.getElem?_toArray, List.getElem?_map, List.getD_eq_getElem?_getD, List.getElem?_eq_getElem hj]
  rfl
theorem StrsP.tail {w : World} {b o : Nat} {ws : List ByteArray} {x : ByteArray} (h : StrsP w b o (x :: ws)) : StrsP w b (o + 1) ws :=
  ⟨h.lt, fun j hj => by
    have := h.at_ (j + 1) (by simp; omega)
    rw [show o + 1 + j = o + (j + 1) by omega, this]
    rfl⟩
theorem strs_ne {l : List UInt8} {s : ByteArray} (h : l ≠ s.data.toList) : ((⟨l.toArray⟩ : ByteArray).toList == s.toList) = false := by
  rw [ByteArray.toList_eq, ByteArray.toList_eq]
  exact beq_eq_false_iff_ne.2 fun e => h (by simpa using e)
theorem strs_back (l : List UInt8) (s : ByteArray) (h : l = s.data.toList) : (⟨l.toArray⟩ : ByteArray) = s := by subst h; rfl
/-- Where the walk through the words stands. -/
structure NmI (w : World) (ws : List ByteArray) (i : Nat) (v : Value) (wr : World) : Prop where
  is : ∃ zs, OwnI wr w.heap.size v zs ∧ (ws.take i).map (·.data.toList) = zs.map Lib.itoa ∧ (∀ z ∈ zs, 0 ≤ z ∧ I64 z) ∧ zs.length = i
  bel : Below w.heap.size w wr
/-- What image.numbers answers. -/
def NumsP (w : World) (ws : List ByteArray) (k : Nat) (e : Ending) (w' : World) : Prop :=
  ((∃ zs v, ws.map (·.data.toList) = zs.map Lib.itoa ∧ zs.length = k ∧ (∀ z ∈ zs, 0 ≤ z ∧ I64 z) ∧ e = .returned (.tuple #[v, .bool true]) ∧ OwnI w' w.heap.size v zs) ∨
    e = .returned (.tuple #[.slice none 0 0, .bool false])) ∧ Below w.heap.size w w'
theorem NmI.next {w w9 : World} {ws : List ByteArray} {i : Nat} {v9 : Value} {zs : List Int} {z : Int} {s : ByteArray} (hz : (ws.take i).map (·.data.toList) = zs.map Lib.itoa) (hb : ∀ z ∈ zs, 0 ≤ z ∧ I64 z) (hl : zs.length = i) (hi : ws[i]? = some s)
    (he : Lib.itoa z = s.data.toList) (h0 : 0 ≤ z) (hzi : I64 z) (ho : OwnI w9 w.heap.size v9 (zs ++ [z])) (hbel : Below w.heap.size w w9) : NmI w ws (i + 1) v9 w9 :=
  ⟨⟨zs ++ [z], ho, by rw [List.take_add_one, hi, List.map_append, List.map_append, hz, List.map_singleton, he]; rfl, fun y hy => by
    rcases List.mem_append.1 hy with hy | hy
    · exact hb y hy
    · rw [List.mem_singleton.1 hy]; exact ⟨h0, hzi⟩, by rw [List.length_append, hl]; rfl⟩, hbel⟩
set_option maxRecDepth 100000 in
set_option maxHeartbeats 8000000 in
theorem numbers_any (b o L cap k : Nat) (ws : List ByteArray) (w : World) (hL : ws.length = L) (h : StrsP w b o ws) (hG : GlobV w) (hk : k ≤ 10) (hz : ∀ s ∈ ws, s.size ≤ 100000) (hLm : L ≤ 100000) :
    Calls Tryz.prog 66 #[.slice (some ⟨b, o, none⟩) L cap, .int .i64 (k : Int)] w (NumsP w ws k) := by
  have HS := hide h
  have HG := hide hG
  have HZ := Lib.hid hz
  have HL := Lib.hid hL
  clear h hG hz hL
  by_cases hLk : L = k
  · subst hLk
    go_enter Tryz.func66, Tryz.ntmps66
    go_wp2
    go_loopw [6, 17] (fun ov iv wr => ∃ i : Nat, i ≤ L ∧ iv = .int .i64 i ∧ Hid (NmI w ws i ov wr)) (fun _ iv _ => L - (intOf iv).toNat)
    case atStart => exact ⟨0, Nat.zero_le _, rfl, hide ⟨⟨[], World.ownsRow_nil _ _ _ _, rfl, (fun z hz => by cases hz), rfl⟩, Below.refl _ _⟩⟩
    case round =>
      obtain ⟨i, hi, rfl, HI⟩ := hrel
      obtain ⟨wr0, rfl⟩ : ∃ wr0, wr0 = wr := ⟨_, rfl⟩
      obtain ⟨zs, ho, hzs, hbs, hzl⟩ := HI.out.is
      have HB := hide HI.out.bel
      by_cases hlt : i < L
      · have hiI : (i : Int) < (L : Int) := by omega
        have hil : i < ws.length := by rw [HL.out]; exact hlt
        have c0 := (HS.out.below HB.out).at_ i hil
        have hwi : ws[i]? = some (ws.getD i ⟨#[]⟩) := by rw [List.getD_eq_getElem?_getD, List.getElem?_eq_getElem hil]; rfl
        have hsz := HZ.out _ (List.mem_of_getElem? hwi)
        have HO := hide ho
        have HZS := Lib.hid hzs
        have HBS := Lib.hid hbs
        clear ho hzs hbs HI
        generalize ws.getD i ⟨#[]⟩ = s at c0 hwi hsz
        have HWI := Lib.hid hwi
        have HAT := hide (atoiL_any s wr0 (HG.out.below HB.out) hsz)
        clear hwi
        go_wp2_with fail
        refine (HAT.out).mono ?_
        rintro e w1 ⟨⟨v, hok, hv, rfl⟩ | ⟨hn, x, t, p, rfl⟩, hb⟩
        · have HB1 := hide (HB.out.trans (hb.mono HB.out.size))
          have HO1 := hide (HO.out.below hb)
          by_cases hv0 : v < 0
          · have hvd : decide (v < 0) = true := decide_eq_true hv0
            go_wp2
            go_ret2
            exact ⟨.inr rfl, HB1.out⟩
          · have hvd : decide (v < 0) = false := decide_eq_false hv0
            have HIT := hide (itoa_any v w1 (HG.out.below HB1.out).t hv)
            unfold TextP at HIT
            clear hok hb HAT
            by_cases he : Lib.itoa v = s.data.toList
            · rw [strs_back _ _ he] at HIT
              have HE := Lib.hid he
              have hss : (s.toList == s.toList) = true := by simp
              have hsn : (!(s.toList == s.toList)) = false := by simp
              clear he
              go_wp2_with fail
              refine (HIT.out).mono ?_
              rintro e w2 ⟨rfl, hb2⟩
              have HB2 := hide (HB1.out.trans (hb2.mono HB1.out.size))
              have HO2 := hide (HO1.out.below hb2)
              have HOA := hide (fun o : Obj => HO2.out.below ((Below.refl w2.heap.size w2).alloc (Nat.le_refl _) o))
              have HSA := Lib.hid (fun o : Obj => show w.heap.size ≤ (w2.alloc o).heap.size by have := HB2.out.size; simp; omega)
              have HRD := hide (show Reads (w2.alloc (.cells #[.int .i64 v] 3)) (w2.heap.size + 1) 1 (some ⟨w2.heap.size, 0, none⟩) 1 (intsV [v]) from blk_reads (zs := [v]) (Blk.new w2 3 #[.int .i64 v]))
              have HLT := hide (World.ownsRow.lt HO2.out)
              have hzl2 : zs.length + 1 ≤ 100000000 := by omega
              clear hb2
              go_wp2_with (first
                | (at_builtin; (refine appI _ rfl _ _ _ rfl w.heap.size Tryz.underlying24 _ zs rfl (HOA.out _) _ _ _ _ [v] rfl HRD.out rfl hzl2 (HSA.out _) ?_; intro v9 w9 ho9 hg9 _; have HN := hide (NmI.next HZS.out HBS.out hzl HWI.out HE.out (by omega) hv ho9 ((HB2.out.alloc HB2.out.size _).grown hg9 (HSA.out _) (fun j hj => (HLT.out j hj).1))); clear ho9 hg9))
                | fail)
              go_roundw
              case rel => exact ⟨i + 1, by omega, by go_num, HN⟩
              case measure => simp [intOf]; omega
            · have hq := strs_ne he
              generalize (⟨(Lib.itoa v).toArray⟩ : ByteArray) = q at HIT hq
              have hqn : (!(q.toList == s.toList)) = true := by rw [hq]; rfl
              clear he
              go_wp2_with fail
              refine (HIT.out).mono ?_
              rintro e w2 ⟨rfl, hb2⟩
              have HB2 := hide (HB1.out.trans (hb2.mono HB1.out.size))
              clear hb2
              go_wp2
              go_ret2
              exact ⟨.inr rfl, HB2.out⟩
        · have HB1 := hide (HB.out.trans (hb.mono HB.out.size))
          clear hb
          go_wp2
          go_ret2
          exact ⟨.inr rfl, HB1.out⟩
      · obtain rfl : i = L := by omega
        have hend : NumsP w ws i (.returned (.tuple #[u6, .bool true])) wr0 := ⟨.inl ⟨zs, _, by rw [List.take_of_length_le (Nat.le_of_eq HL.out)] at hzs; exact hzs, hzl, hbs, rfl, ho⟩, HB.out⟩
        have HEND := hide hend
        clear hend ho
        go_wp2
        go_ret2
        exact HEND.out
  · have hLI : ¬ (L : Int) = (k : Int) := by omega
    have hne : ((L : Int) != (k : Int)) = true := by simpa using hLI
    go_enter Tryz.func66, Tryz.ntmps66
    go_wp2
    go_ret2
    exact ⟨.inr rfl, Below.refl _ _⟩
end Go.Proofs.YtdlcldhnbhlikaaGreatDoor
