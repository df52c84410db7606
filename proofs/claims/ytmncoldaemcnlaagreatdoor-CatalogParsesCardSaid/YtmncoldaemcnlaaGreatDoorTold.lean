/-
  Numbers told with blanks between: told differently just if they differ; no program in sight. The reference's Told and sameClause: clauses held against each other by their texts.
-/
import Derived.Lib.ItoaMem
import Derived.Lib.Join
import Derived.Lib.ItoaLen
import Derived.Test.YtmncoldaemcnlaaGreatDoorToldLay
import Derived.Test.YtmncoldaemcnlaaGreatDoorRefCheck
import Derived.Lib.AppendIntMem
namespace Go.Proofs.YtmncoldaemcnlaaGreatDoor

theorem dec_mem : ∀ (u : Nat) (d : UInt8), d ∈ Lib.decDigits u → 48 ≤ d.toNat ∧ d.toNat ≤ 57 := by
  intro u
  induction u using Nat.strongRecOn with
  | ind u ih =>
    intro d hd
    rw [Lib.decDigits] at hd
    split at hd
    · rename_i h
      rw [List.mem_singleton.1 hd, UInt8.toNat_ofNat']
      omega
    · rename_i h
      rcases List.mem_append.1 hd with hd | hd
      · exact ih (u / 10) (by omega) d hd
      · rw [List.mem_singleton.1 hd, UInt8.toNat_ofNat']
        omega
theorem dec_ne (u : Nat) : Lib.decDigits u ≠ [] := by
  rw [Lib.decDigits]
  split
  · simp
  · simp
def decVal (l : List UInt8) : Nat := l.foldl (fun a d => 10 * a + (d.toNat - 48)) 0
theorem dec_val : ∀ u : Nat, decVal (Lib.decDigits u) = u := by
  intro u
  induction u using Nat.strongRecOn with
  | ind u ih =>
    rw [Lib.decDigits]
    split
    · rename_i h
      simp only [decVal, List.foldl_cons, List.foldl_nil, UInt8.toNat_ofNat']
      omega
    · rename_i h
      have := ih (u / 10) (by omega)
      unfold decVal at this ⊢
      rw [List.foldl_append, this]
      simp only [List.foldl_cons, List.foldl_nil, UInt8.toNat_ofNat']
      omega
theorem dec_inj {u v : Nat} (h : Lib.decDigits u = Lib.decDigits v) : u = v := by rw [← dec_val u, ← dec_val v, h]
theorem dec_head (u : Nat) (r : List UInt8) : Lib.decDigits u ≠ 45 :: r := by
  intro h
  have := dec_mem u 45 (by rw [h]; exact List.mem_cons_self ..)
  exact absurd this.1 (by decide)
theorem itoa_inj {n m : Int} (h : Lib.itoa n = Lib.itoa m) : n = m := by
  unfold Lib.itoa at h
  split at h
  · split at h
    · have := dec_inj (List.cons.inj h).2
      omega
    · exact absurd h.symm (dec_head _ _)
  · split at h
    · exact absurd h (dec_head _ _)
    · have := dec_inj h
      omega
theorem itoa_ne (n : Int) : Lib.itoa n ≠ [] := by
  unfold Lib.itoa
  split
  · simp
  · exact dec_ne _
theorem itoa_blank (n : Int) : ∀ d ∈ Lib.itoa n, d ≠ 32 := by
  intro d hd
  unfold Lib.itoa at hd
  have h9 : ∀ u : Nat, d ∈ Lib.decDigits u → d ≠ 32 := fun u h e => by
    have := dec_mem u d h
    rw [e] at this
    exact absurd this.1 (by decide)
  split at hd
  · rcases List.mem_cons.1 hd with e | h
    · rw [e]; decide
    · exact h9 _ h
  · exact h9 _ hd

def textF (zs : List Int) : List UInt8 := Lib.join (zs.map Lib.itoa) [32]
theorem text_nil : textF [] = [] := rfl
theorem text_cons (x : Int) (r : List Int) : textF (x :: r) = Lib.itoa x ++ (if r = [] then [] else 32 :: textF r) := by
  cases r with
  | nil => simp [textF, Lib.join_one]
  | cons y r =>
    unfold textF
    rw [List.map_cons, Lib.join_cons, List.map_cons, Lib.join_cons, if_neg (by simp)]
    simp [Lib.joinTail]
theorem split_blank {a b : List UInt8} {r s : List UInt8} (ha : ∀ d ∈ a, d ≠ 32) (hb : ∀ d ∈ b, d ≠ 32) (hr : r = [] ∨ ∃ t, r = 32 :: t) (hs : s = [] ∨ ∃ t, s = 32 :: t) (h : a ++ r = b ++ s) : a = b ∧ r = s := by
  induction a generalizing b with
  | nil =>
    cases b with
    | nil => exact ⟨rfl, h⟩
    | cons y b =>
      exfalso
      simp only [List.nil_append, List.cons_append] at h
      rcases hr with e | ⟨t, e⟩
      · rw [e] at h; cases h
      · rw [e] at h; exact hb y (List.mem_cons_self ..) (List.cons.inj h).1.symm
  | cons x a ih =>
    cases b with
    | nil =>
      exfalso
      simp only [List.nil_append, List.cons_append] at h
      rcases hs with e | ⟨t, e⟩
      · rw [e] at h; cases h
      · rw [e] at h; exact ha x (List.mem_cons_self ..) (List.cons.inj h).1
    | cons y b =>
      simp only [List.cons_append] at h
      obtain ⟨e1, e2⟩ := List.cons.inj h
      obtain ⟨h1, h2⟩ := ih (fun d hd => ha d (List.mem_cons_of_mem _ hd)) (fun d hd => hb d (List.mem_cons_of_mem _ hd)) e2
      exact ⟨by rw [e1, h1], h2⟩
theorem text_inj : ∀ (a b : List Int), textF a = textF b → a = b := by
  have key : ∀ (r : List Int), (if r = [] then [] else 32 :: textF r : List UInt8) = [] ∨ ∃ t, (if r = [] then [] else 32 :: textF r : List UInt8) = 32 :: t := by
    intro r
    split
    · exact .inl rfl
    · exact .inr ⟨_, rfl⟩
  intro a
  induction a with
  | nil =>
    intro b h
    cases b with
    | nil => rfl
    | cons y b =>
      rw [text_nil, text_cons] at h
      exact absurd (List.append_eq_nil_iff.1 h.symm).1 (itoa_ne y)
  | cons x a ih =>
    intro b h
    cases b with
    | nil =>
      rw [text_nil, text_cons] at h
      exact absurd (List.append_eq_nil_iff.1 h).1 (itoa_ne x)
    | cons y b =>
      rw [text_cons, text_cons] at h
      obtain ⟨h1, h2⟩ := split_blank (itoa_blank x) (itoa_blank y) (key a) (key b) h
      rw [itoa_inj h1]
      congr 1
      by_cases ea : a = []
      · by_cases eb : b = []
        · rw [ea, eb]
        · rw [if_pos ea, if_neg eb] at h2; cases h2
      · by_cases eb : b = []
        · rw [if_neg ea, if_pos eb] at h2; cases h2
        · rw [if_neg ea, if_neg eb] at h2
          exact ih b (List.cons.inj h2).2
/-- How long it is at most. -/
theorem textF_len : ∀ (zs : List Int), (∀ z ∈ zs, -9223372036854775808 ≤ z ∧ z ≤ 9223372036854775807) → (textF zs).length ≤ 22 * zs.length := by
  intro zs
  induction zs with
  | nil => intro _; exact Nat.le_refl _
  | cons x r ih =>
    intro h
    have h1 := Lib.itoa_length_le x (h x (List.mem_cons_self ..)).1 (h x (List.mem_cons_self ..)).2
    have h2 := ih (fun z hz => h z (List.mem_cons_of_mem _ hz))
    rw [text_cons, List.length_append, List.length_cons]
    split
    · simp; omega
    · rw [List.length_cons]; omega
end Go.Proofs.YtmncoldaemcnlaaGreatDoor
namespace Go.Proofs.YtmncoldaemcnlaaGreatDoor
open Go.RowKit

theorem gPow : Tryz.prog.globalNamed "internal/strconv.uint64pow10" = some 8 := by kernel_rfl
/-- What strconv.Itoa leans on. -/
structure GlobT (w : World) : Prop where
  tab : Lib.TabIs Tryz.prog w "internal/strconv.uint64pow10" .u64 Lib.pow10Tab
theorem GlobT.blocks {w w' : World} (h : GlobT w) (hb : ∀ g, 8 = g → g < w.heap.size → w'.heap[g]? = w.heap[g]?) : GlobT w' := by
  obtain ⟨h⟩ := h
  refine ⟨?_⟩
  unfold Lib.TabIs World.var? at h ⊢
  rw [gPow] at h ⊢
  simp only [Option.bind_some] at h ⊢
  have hlt : 8 < w.heap.size := by
    rcases Nat.lt_or_ge 8 w.heap.size with h' | h'
    · exact h'
    · rw [Array.getElem?_eq_none h'] at h; cases h
  rw [hb _ rfl hlt]
  exact h
theorem GlobT.below {w w' : World} (h : GlobT w) (hb : Below w.heap.size w w') : GlobT w' := h.blocks fun g _ hg => hb.block g hg
theorem GlobT.lt {w : World} (h : GlobT w) : 8 < w.heap.size := by
  obtain ⟨h⟩ := h
  unfold Lib.TabIs World.var? at h
  rw [gPow] at h
  simp only [Option.bind_some] at h
  rcases Nat.lt_or_ge 8 w.heap.size with h' | h'
  · exact h'
  · rw [Array.getElem?_eq_none h'] at h; cases h

theorem stringInfo : (Tryz.prog.info? 9).map (fun i => (i.zero, i.size, i.bytes)) = some (some (.string ⟨#[]⟩), 1, 16) := by kernel_rfl
def OwnS (w : World) (base : Nat) (v : Value) (xs : List ByteArray) : Prop := w.ownsRow base 9 1 v xs.length (xs.map Value.string)
theorem one_newsS (w : World) (u : Value) (g : Nat) (hc : w.cell? ⟨g, 0, none⟩ = some u) : Reads w (g + 1) 1 (some ⟨g, 0, none⟩) 1 [u] := by
  refine ⟨rfl, fun _ => ⟨_, rfl, Nat.lt_succ_self _, fun j x hx => ?_⟩⟩
  match j, hx with
  | 0, hx => simp at hx; subst hx; simpa [Addr.add] using hc
/-- append of one string, in a plain region. -/
theorem appStr (w : World) {ops : Array Oper} {rest : List Oper} {o : Oper} {a : Act} {Q : Exit → Act → World → Prop} (hgd : o.guard = none) (s x : Operand) (t : TypeId)
    (ho : o.op = .call { callee := .builtin .append, args := #[s, x], argTypes := #[t, t] }) (base : Nat) (ht : Tryz.prog.underlying t = some (.slice 9))
    (v : Value) (xs : List ByteArray) (hs : a.eval s = v) (hown : OwnS w base v xs) (g c : Nat) (hx : a.eval x = .slice (some ⟨g, 0, none⟩) 1 c) (y : ByteArray) (hc : w.cell? ⟨g, 0, none⟩ = some (.string y))
    (hl : xs.length ≤ 4000000000) (hbase : base ≤ w.heap.size)
    (h : ∀ v' w', OwnS w' base v' (xs ++ [y]) → w.grownBy w' v.ownBlock → (v'.ownBlock = v.ownBlock ∨ v'.ownBlock = some w.heap.size) → wpList Tryz.prog ops Q rest (a.put o.dst v') w') : wpList Tryz.prog ops Q (o :: rest) a w := by
  obtain ⟨i0, hi, hz0, hz1, hz2⟩ := info_parts stringInfo
  refine wpList_append_any w hgd s x t ho base 9 i0 (.string ⟨#[]⟩) 1 16 ht hi hz0 hz1 hz2 rfl (by decide) v xs.length _ hs hown (g + 1) (some ⟨g, 0, none⟩) 1 c [.string y] hx (one_newsS w _ g hc) (by simp; rfl) (by simp only [maxLen]; omega) (by omega) hbase ?_
  intro v' w' ho' hg' hor
  refine h v' w' ?_ hg' hor
  unfold OwnS
  rw [List.length_append, List.length_singleton, List.map_append]
  exact ho'

theorem add0 (g j : Nat) : (⟨g, 0, none⟩ : Addr).add j = ⟨g, 0 + j, none⟩ := by
  unfold Addr.add
  split
  · rename_i h; rw [h]
  · rfl
def strsF (zs : List Int) : List ByteArray := zs.map fun z => ⟨(Lib.itoa z).toArray⟩
theorem strs_join (zs : List Int) : Lib.join ((strsF zs).map (·.data.toList)) [32] = textF zs := by
  unfold textF strsF
  rw [List.map_map]
  congr 1
def ToldPost (w : World) (zs : List Int) (e : Ending) (w' : World) : Prop := e = .returned (.string ⟨(textF zs).toArray⟩) ∧ Below w.heap.size w w'
structure ToldI (w0 : World) (zs : List Int) (k : Nat) (v : Value) (w : World) : Prop where
  bel : Below w0.heap.size w0 w
  own : OwnS w w0.heap.size v (strsF (zs.take k))

set_option maxRecDepth 100000 in
set_option maxHeartbeats 2000000 in
theorem textW_any (A : Option Addr) (n c : Nat) (zs : List Int) (w : World) (hG : GlobT w) (h : Ints w w.heap.size A n zs) (hn : n ≤ 1000) :
    Calls Tryz.prog 111 #[.slice A n c] w (ToldPost w zs) := by
  have HI := hide h
  have HG := hide hG
  have HL := Lib.hid h.len
  clear h hG
  go_enter Tryz.func111, Tryz.ntmps111
  go_wp2
  go_loopw [3, 8] (fun v i wr => ∃ k : Nat, k ≤ n ∧ i = .int .i64 k ∧ Hid (ToldI w zs k v wr)) (fun _ i _ => n - (intOf i).toNat)
  case atStart => exact ⟨0, Nat.zero_le _, rfl, hide ⟨Below.refl _ _, World.ownsRow_nil _ _ _ _⟩⟩
  case round =>
    obtain ⟨k, hk, rfl, hT⟩ := hrel
    by_cases hlt : k < n
    · obtain ⟨ad, rfl, hb, hc⟩ := HI.out.at_ hlt
      have hkl := Lib.hid (show k < zs.length by rw [HL.out]; exact hlt)
      have hc2 : wr.cell? (ad.add k) = some (.int .i64 (zs.getD k 0)) := (hT.out.bel.cell (by rw [block_of_add]; exact hb)).trans hc
      have hx := HI.out.2.2.1 (zs.getD k 0) (by rw [List.getD_eq_getElem?_getD, List.getElem?_eq_getElem hkl.out]; exact List.getElem_mem hkl.out)
      have HTK := Lib.hid (show strsF (zs.take (k + 1)) = strsF (zs.take k) ++ [⟨(Lib.itoa (zs.getD k 0)).toArray⟩] by unfold strsF; rw [take_snoc zs k 0 hkl.out, List.map_append]; rfl)
      have HLS := Lib.hid (show (strsF (zs.take k)).length ≤ 1000 by unfold strsF; rw [List.length_map, List.length_take]; omega)
      clear hc
      generalize zs.getD k 0 = z at hc2 hx HTK
      have HIT := hide (Tryz.strconv_Itoa z hx.1 hx.2 wr (HG.out.below hT.out.bel).tab)
      clear hx
      go_wp2_with fail
      refine (HIT.out).mono ?_
      rintro e w3 ⟨rfl, kk, os, rfl⟩
      have HB3 := hide (Lib.below_grow wr.heap.size wr (Nat.le_refl _) kk os)
      generalize Sort.grow (wr.drewN kk) os = w3 at HB3 ⊢
      have HBA := hide ((hT.out.bel.trans (HB3.out.mono hT.out.bel.size)).alloc (hT.out.bel.trans (HB3.out.mono hT.out.bel.size)).size (.cells #[.string ⟨(Lib.itoa z).toArray⟩] 9))
      have HOA := hide (show OwnS (w3.alloc (.cells #[.string ⟨(Lib.itoa z).toArray⟩] 9)) w.heap.size _ (strsF (zs.take k)) from (hT.out.own.kept (row := none) ⟨HB3.out.os, HB3.out.tape, HB3.out.output, HB3.out.size, fun i hi _ => HB3.out.block i hi⟩ (by cases (Value.ownBlock _) <;> simp)).alloc _)
      have HCA := Lib.hid (show (w3.alloc (.cells #[.string ⟨(Lib.itoa z).toArray⟩] 9)).cell? ⟨w3.heap.size, 0, none⟩ = some (.string ⟨(Lib.itoa z).toArray⟩) by simp)
      have HLT := hide (show ∀ k, _ → _ from hT.out.own.lt)
      go_wp2_with (at_builtin; refine appStr _ rfl _ _ 108 rfl w.heap.size Tryz.underlying108 _ (strsF (zs.take k)) rfl HOA.out w3.heap.size 1 rfl ⟨(Lib.itoa z).toArray⟩ HCA.out (by have := HLS.out; omega) HBA.out.size ?_; intro v1 w1 ho1 hg1 hor; have HO1 := hide ho1; have HB1 := hide (HBA.out.grown hg1 HBA.out.size (fun k hk => (HLT.out k hk).1)); clear ho1 hg1 hor)
      go_roundw
      case rel => exact ⟨k + 1, by omega, by go_num, hide ⟨HB1.out, by rw [HTK.out]; exact HO1.out⟩⟩
      case measure => simp [intOf]; omega
    · obtain rfl : k = n := by omega
      have hown := hT.out.own
      rw [List.take_of_length_le (Nat.le_of_eq HL.out)] at hown
      have HB := hide hT.out.bel
      have HSL : (strsF zs).length = k := by unfold strsF; rw [List.length_map, HL.out]
      have HOW := hide hown
      clear hT
      rcases hown.2 with ⟨rfl, h0⟩ | ⟨g, cap, cur, rfl, hg, hgc, hle, hcm, _⟩
      · rw [HSL] at h0
        subst h0
        obtain rfl : zs = [] := List.eq_nil_of_length_eq_zero HL.out
        have HJ := hide (Tryz.strings_Join_none none 0 ⟨#[32]⟩ wr)
        clear hown
        go_wp2_with fail
        refine (HJ.out).mono ?_
        rintro e w3 ⟨rfl, rfl⟩
        go_wp2
        go_ret
        exact ⟨rfl, HB.out⟩
      · have hcl := hown.cells (g := g) rfl
        have hbk := (hown.lt g rfl).2
        have HJ := hide (Tryz.strings_Join g 0 cap (strsF zs) ⟨#[32]⟩ wr (fun j x hx => by
          have := hcl j (.string x) (by rw [List.getElem?_map, hx]; rfl)
          rw [add0 g j] at this
          exact this) hbk (by rw [HSL]; omega) hle (by
          rw [show (ByteArray.data ⟨#[32]⟩).toList = [32] from rfl, strs_join]
          have := textF_len zs HI.out.2.2.1
          rw [HL.out] at this
          omega))
        rw [show (ByteArray.data ⟨#[32]⟩).toList = [32] from rfl, strs_join, HSL] at HJ
        rw [HSL]
        clear hown hcl HOW
        go_wp2_with fail
        refine (HJ.out).mono ?_
        rintro e w3 ⟨rfl, hb3⟩
        have HB3 := hide (HB.out.trans (hb3.mono HB.out.size))
        clear hb3
        go_wp2
        go_ret
        exact ⟨rfl, HB3.out⟩

def SamePost (w : World) (b : Bool) (e : Ending) (w' : World) : Prop := e = .returned (.bool b) ∧ Below w.heap.size w w'
theorem bytes_ne {a b : List UInt8} (h : a ≠ b) : (⟨a.toArray⟩ : ByteArray) ≠ ⟨b.toArray⟩ := fun e => h (by
  have := congrArg (fun x => x.data.toList) e
  simpa using this)
end Go.Proofs.YtmncoldaemcnlaaGreatDoor
