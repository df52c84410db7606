/-
  solspacebig's twin, small, Text, String of numbers that aren't below 0.
-/
import Derived.Test.YtpghgfenafhhbaaDoorBigF
import Derived.Test.YtpghgfenafhhbaaDoorNatD
import Derived.Test.YtpghgfenafhhbaaDoorNatAdd
namespace Go.Proofs.YtpghgfenafhhbaaDoor
open Go.RowKit

/-- append of a row of limbs to nil, in a plain region. -/
theorem appRow (w : World) {ops : Array Oper} {rest : List Oper} {o : Oper} {a : Act} {Q : Exit → Act → World → Prop} (hgd : o.guard = none) (s x : Operand) (t : TypeId)
    (ho : o.op = .call { callee := .builtin .append, args := #[s, x], argTypes := #[t, t] }) (ht : Tryd.prog.underlying t = some (.slice 57))
    (hs : a.eval s = .slice none 0 0) (A : Option Addr) (n c : Nat) (xs : List Nat) (hx : a.eval x = .slice A n c) (hl : Lim w w.heap.size A n xs) (hn : n ≤ 1000000)
    (h : ∀ v' w', OwnL w' w.heap.size v' xs → w.grownBy w' none → wpList Tryd.prog ops Q rest (a.put o.dst v') w') : wpList Tryd.prog ops Q (o :: rest) a w := by
  obtain ⟨i0, hi, hz0, hz1, hz2⟩ := info_parts limbInfo
  refine wpList_append_any w hgd s x t ho w.heap.size 57 i0 (.int .u32 0) 1 4 ht hi hz0 hz1 hz2 rfl (by decide) (.slice none 0 0) 0 [] hs (World.ownsRow_nil _ _ _ _) w.heap.size A n c (xs.map limbV) hx hl.2.2.2 (fun u hu => by obtain ⟨y, _, rfl⟩ := List.mem_map.1 hu; rfl) (by simp only [maxLen]; omega) (by omega) (Nat.le_refl _) ?_
  intro v' w' ho' hg' _
  refine h v' w' ?_ hg'
  rw [Nat.zero_add, List.nil_append] at ho'
  unfold OwnL
  rw [hl.1]
  exact ho'
theorem OwnL.new {w : World} {base : Nat} {v : Value} {l : List Nat} (h : OwnL w base v l) : NewV base v := by
  intro ad n c e
  rcases h.2 with ⟨rfl, _⟩ | ⟨g, cap, cur, rfl, _⟩
  · cases e
  · injection e with e
    injection e with e
    subst e
    exact (World.ownsRow.lt h g rfl).1
theorem BigV.grown {w w' : World} {v : Value} {N : Nat} {r : Option Nat} (h : BigV w v N) (hg : w.grownBy w' r) (hne : ∀ ad n c, v = .slice (some ad) n c → some ad.block ≠ r) : BigV w' v N := by
  obtain ⟨A, n, c, xs, e, h1, h2, h3⟩ := NatV.is h
  have e := agg_one e
  subst e
  refine ⟨A, n, c, xs, rfl, h1, ⟨h2.1, h2.2.1, h2.2.2.1, h2.2.2.2.1, fun h0 => ?_⟩, h3⟩
  obtain ⟨ad, e, hb, hc⟩ := h2.2.2.2.2 h0
  subst e
  exact ⟨ad, rfl, Nat.lt_of_lt_of_le hb hg.size, fun j u hu => hg.cell (hc j u hu) (by rw [block_of_add]; exact hne ad n c rfl)⟩
theorem big_len {w : World} {v : Value} {V N : Nat} (h : BigV w v V) (hV : V ≤ N) (hN : Hid (N < 4294967296 ^ 1000)) : ∃ A n c xs, v = .slice A n c ∧ n ≤ c ∧ Lim w w.heap.size A n xs ∧ TrimL xs ∧ valL xs = V ∧ n ≤ 1000 :=
  h.len (Nat.lt_of_le_of_lt hV hN.out)

set_option maxHeartbeats 1000000 in
theorem twin_any (v : Value) (N : Nat) (w : World) (h : BigV w v N) (hN : Hid (N < 4294967296 ^ 1000)) : Calls Tryd.prog 68 #[v] w (BigPost w N) := by
  obtain ⟨A, n, c, xs, rfl, _, hl, ht, hv, hn⟩ := big_len h (Nat.le_refl _) hN
  have HI := hide hl
  have HT := hide ht
  have HV := Lib.hid hv
  clear h hl ht hv hN
  go_enter Tryd.func68, Tryd.ntmps68
  go_wp2_with (at_builtin; refine appRow _ rfl _ _ 23 rfl Tryd.underlying23 rfl A n c xs rfl HI.out (by omega) ?_; intro v9 w9 ho9 hg9; have HO9 := hide ho9; have HG9 := hide hg9; clear ho9 hg9)
  go_ret
  obtain ⟨A2, c2, e2, h2, h3⟩ := HO9.out.lim (by rw [HI.out.1]; simp only [maxLen]; omega) HI.out.2.2.1
  subst e2
  exact ⟨_, rfl, ⟨A2, _, c2, xs, rfl, h2, h3, HT.out, HV.out⟩, HO9.out.new, (Below.refl _ _).grown HG9.out (Nat.le_refl _) (fun i hi => by cases hi)⟩

def SmallPost (w : World) (N : Nat) (e : Ending) (w' : World) : Prop := ∃ v, e = .returned (.tuple #[v, .int .u32 ((N % 10 : Nat) : Int)]) ∧ BigV w' v (N / 10) ∧ NewV w.heap.size v ∧ Below w.heap.size w w'
set_option maxHeartbeats 2000000 in
theorem small_any (v : Value) (N : Nat) (w : World) (h : BigV w v N) (hN : Hid (N < 4294967296 ^ 1000)) : Calls Tryd.prog 69 #[v, .int .u32 10] w (SmallPost w N) := by
  obtain ⟨A, n, c, xs, rfl, _, hl, _, hv, hn⟩ := big_len h (Nat.le_refl _) hN
  have hmk := run_mk w n (by omega) (n : Int) rfl
  have HI := hide hl
  have HL := Lib.hid hl.1
  have HV := Lib.hid hv
  have HS := hide (show ShI w xs 10 n n 0 [] (w.alloc (.cells (limbArr (List.replicate n 0)) 57)) from ⟨(Below.refl w.heap.size w).alloc (Nat.le_refl _) _, by rw [List.append_nil]; exact Blk.new _ _ _, by simp, by simp, by rw [List.drop_eq_nil_of_le (Nat.le_of_eq hl.1)]; simp [valL], by omega⟩)
  clear h hl hv hN
  go_enter Tryd.func69, Tryd.ntmps69
  go_wp2
  generalize (w.alloc (.cells (limbArr (List.replicate n 0)) 57)) = w1 at HS ⊢
  go_loopw [7, 8] (fun rv iv wr => ∃ (j r : Nat) (qs : List Nat), j ≤ n ∧ iv = .int .i64 ((j : Int) - 1) ∧ rv = .int .u64 (r : Int) ∧ Hid (ShI w xs 10 n j r qs wr)) (fun _ iv _ => (intOf iv + 1).toNat)
  case atStart => exact ⟨n, 0, [], Nat.le_refl _, rfl, rfl, HS⟩
  case round =>
    clear HS hmk
    obtain ⟨j, r, qs, hj, rfl, rfl, hS⟩ := hrel
    rcases Nat.eq_zero_or_pos j with h0 | h0
    · subst h0
      have HQ := Lib.hid (show N / 10 = valL qs ∧ N % 10 = r by
        have := hS.out.val
        rw [List.drop_zero, HV.out] at this
        exact (Nat.div_mod_unique (by omega)).2 ⟨by rw [this, Nat.mul_comm, Nat.add_comm], hS.out.rd⟩)
      have hbk := hS.out.blk
      have HLM := hide (show Blk wr w.heap.size 57 (limbArr qs) by simpa using hbk)
      have HLN := Lib.hid (show qs.length = n by have := hS.out.len; omega)
      have HLI := hide (lim_blk HLM.out HLN.out (by simp only [maxLen]; omega) hS.out.lt)
      have HCT := hide (cut_any (some ⟨w.heap.size, 0, none⟩) n n qs wr HLI.out (Nat.le_refl _))
      have hr := hS.out.rd
      have hr2 : (r : Int) % 4294967296 = (r : Int) := by omega
      have HB := hide hS.out.bel
      clear hbk hS
      go_wp2_with fail
      refine (HCT.out).mono ?_
      rintro e w2 ⟨m, hm, rfl, htr, hval, rfl⟩
      have hmn : m ≤ n := by rw [← HLN.out]; exact hm
      have HNV := hide (show BigV wr (.slice (some ⟨w.heap.size, 0, none⟩) m n) (N / 10) from ⟨_, m, n, _, rfl, hmn, HLI.out.take hmn, htr, by rw [hval, HQ.out.1]⟩)
      clear htr hval
      go_wp2
      go_ret2
      exact ⟨_, by rw [HQ.out.2]; rfl, HNV.out, new_at (Nat.le_refl _), HB.out⟩
    · obtain ⟨k, rfl⟩ : ∃ k, j = k + 1 := ⟨j - 1, by omega⟩
      obtain ⟨ad, rfl, hb, hcell, hx⟩ := HI.out.at_ (k := k) (by omega)
      have hc2 := (hS.out.bel.cell (by rw [block_of_add]; exact hb)).trans hcell
      have hq := short_step (d := 10) (q := (r * 4294967296 + xs.getD k 0) / 10) (s := (r * 4294967296 + xs.getD k 0) % 10) (by omega) hS.out.rd hx hS.out.val rfl rfl
      rw [← valL_drop (by rw [HL.out]; omega)] at hq
      have HQ := hide hq
      have o0 := (hS.out.blk.cell k).trans (limbArr_at (by simp; omega))
      have o1 := hS.out.blk.frozen k
      have HBK := hide hS.out.blk
      have HBE := hide hS.out.bel
      have HLE := Lib.hid hS.out.len
      have HLT := hide hS.out.lt
      have hr := hS.out.rd
      clear hcell hq hS
      generalize xs.getD k 0 = x at hc2 hx HQ
      have HO := or_low r x (by omega) hx
      obtain ⟨t, HT⟩ : ∃ t, Hid (r * 4294967296 + x = t) := ⟨_, Lib.hid rfl⟩
      rw [HT.out] at HO HQ
      have ht : t < 42949672960 := by rw [← HT.out]; omega
      obtain ⟨q, HQQ⟩ : ∃ q, Hid (t / 10 = q) := ⟨_, Lib.hid rfl⟩
      obtain ⟨s, HSS⟩ : ∃ s, Hid (t % 10 = s) := ⟨_, Lib.hid rfl⟩
      rw [HQQ.out, HSS.out] at HQ
      have q1 : (t : Int) / 10 = (q : Int) := by rw [← HQQ.out]; omega
      have q2 : (t : Int) % 10 = (s : Int) := by rw [← HSS.out]; omega
      have hq4 : q < 4294967296 := by rw [← HQQ.out]; omega
      have hs4 : s < 10 := by rw [← HSS.out]; omega
      have HK4 := hide (HBK.out.set_ k (.int .u32 (q : Int)))
      rw [limbArr_set] at HK4
      go_wp2
      go_roundw
      case rel => exact ⟨k, s, q :: qs, by omega, by first | go_num | (congr 1; omega), by rw [q2], hide ⟨HBE.out.setCell (p := ⟨w.heap.size, k, none⟩) (Nat.le_refl _) _, HK4.out, by rw [List.length_cons]; have := HLE.out; omega, fun y hy => by
        rcases List.mem_cons.1 hy with e | e
        · rw [e]; exact HQ.out.2.2
        · exact HLT.out y e, HQ.out.1, HQ.out.2.1⟩⟩
      case measure => simp [intOf]; try omega

/-- Ahead of a digit. -/
structure TzI (w0 : World) (N V T : Nat) (vo vl : Value) (w : World) : Prop where
  bel : Below w0.heap.size w0 w
  big : BigV w vl V
  mem : ∃ (ds : List Nat) (t : Nat), OwnB w w0.heap.size vo ds ∧ (∀ d ∈ ds, d < 10) ∧ ds.length = t ∧ N = V * 10 ^ t + decL ds ∧ t ≤ T ∧ (V = 0 → ds.getD (t - 1) 0 ≠ 0)
theorem tz_next {N V t q s : Nat} {ds : List Nat} (h : N = V * 10 ^ t + decL ds) (hl : ds.length = t) (hq : V / 10 = q) (hs : V % 10 = s) : N = q * 10 ^ (t + 1) + decL (ds ++ [s]) := by
  rw [decL_append, hl, h, Nat.pow_succ]
  have h2 : V = q * 10 + s := by omega
  rw [h2, Nat.add_mul]
  have e1 : q * 10 * 10 ^ t = q * (10 ^ t * 10) := by rw [Nat.mul_assoc, Nat.mul_comm 10]
  have e2 : 10 ^ t * decL [s] = s * 10 ^ t := by rw [Nat.mul_comm]; simp [decL]
  omega
theorem tz_more {N V t T : Nat} {x : Nat} (h : N = V * 10 ^ t + x) (hV : 0 < V) (hT : N < 10 ^ T) : t < T :=
  (Nat.pow_lt_pow_iff_right (by omega : 1 < 10)).1 (Nat.lt_of_le_of_lt (show 10 ^ t ≤ N by have h1 := Nat.le_mul_of_pos_left (10 ^ t) hV; omega) hT)
theorem sw_fine {N m : Nat} {ds : List Nat} {f : Nat → Nat} (hd : ∀ d ∈ ds, d < 10) (hl : ds.length = m) (h0 : 0 < m) (hz : ds.getD (m - 1) 0 ≠ 0) (hN : decL ds = N) (hf : ∀ p, p < m → f p = ds.getD (m - 1 - p) 0) :
    (Lib.decDigits N).length = m ∧ ∀ j (hj : j < (Lib.decDigits N).length), (byteV (f j)) = .int .u8 ((Lib.decDigits N)[j].toNat : Int) := by
  have e0 : Lib.decDigits N = (ds.map fun d => UInt8.ofNat (48 + d)).reverse := by
    rw [← hN]
    exact digits_text ds hd (fun e => by rw [e] at hl; simp at hl; omega) (by rw [hl]; exact hz)
  have e1 : (Lib.decDigits N).length = m := by rw [e0, List.length_reverse, List.length_map, hl]
  refine ⟨e1, fun j hj => ?_⟩
  have hjm : j < m := by omega
  have hd9 : ds.getD (m - 1 - j) 0 < 10 := by
    rw [List.getD_eq_getElem?_getD, List.getElem?_eq_getElem (by omega)]
    exact hd _ (List.getElem_mem _)
  have e3 : (Lib.decDigits N)[j]? = some (UInt8.ofNat (48 + ds.getD (m - 1 - j) 0)) := by
    rw [e0, List.getElem?_reverse (by rw [List.length_map]; omega), List.getElem?_map, List.length_map, hl, List.getElem?_eq_getElem (by omega), List.getD_eq_getElem?_getD, List.getElem?_eq_getElem (by omega)]
    rfl
  rw [List.getElem?_eq_getElem hj] at e3
  rw [Option.some.inj e3, hf j hjm]
  unfold byteV
  congr 2
  rw [UInt8.toNat_ofNat']
  omega
theorem own_form {w : World} {base : Nat} {v : Value} {ds : List Nat} (h : OwnB w base v ds) (h0 : 0 < ds.length) : ∃ g cap cur, v = .slice (some ⟨g, 0, none⟩) ds.length cap ∧ base ≤ g ∧ Blk w g 5 cur ∧ cur.size = cap ∧ ds.length ≤ cap ∧ ∀ p, p < ds.length → cur[p]? = some (byteV (ds.getD p 0)) := by
  rcases h.2 with ⟨rfl, h9⟩ | ⟨g, cap, cur, rfl, hg, hgc, hle, hcm, hcs, hct⟩
  · omega
  · refine ⟨g, cap, cur, rfl, hg, hgc, by omega, by omega, fun p hp => ?_⟩
    have h1 : (cur.toList.take (ds.length * 1))[p]? = some (byteV (ds.getD p 0)) := by
      rw [hct, List.getElem?_map, List.getElem?_eq_getElem hp, List.getD_eq_getElem?_getD, List.getElem?_eq_getElem hp]
      rfl
    rw [List.getElem?_take_of_lt (by omega)] at h1
    simpa using h1

set_option maxRecDepth 100000 in
set_option maxHeartbeats 4000000 in
theorem intText_any (x N T : Nat) (w : World) (h : IntAt w x N) (hN : Hid (N < 4294967296 ^ 1000)) (hT : Hid (N < 10 ^ T)) (hT2 : T ≤ 1000000) :
    Calls Tryd.prog 45 #[.pointer (some ⟨x, 0, none⟩), .int .i64 10] w (TextPost w N) := by
  obtain ⟨v1, k1, hv1⟩ := h.is
  obtain ⟨A, n, c, xs, rfl, _, hl, ht, hv, hn⟩ := big_len hv1 (Nat.le_refl _) hN
  have c0 := k1.cell 0
  have c1 := k1.cell 1
  have HTW := hide (twin_any _ N w hv1 hN)
  have HXL := Lib.hid hl.1
  have HV := Lib.hid hv
  have HTR := hide ht
  have lx := k1.lt
  clear h hv1 k1 hl ht hv
  by_cases h0 : n = 0
  · subst h0
    have hz : N = 0 := by rw [← HV.out, List.eq_nil_of_length_eq_zero HXL.out]; rfl
    have HD := Lib.hid (show Lib.decDigits N = [48] by rw [hz, Lib.decDigits]; rfl)
    go_enter Tryd.func45, Tryd.ntmps45
    go_wp2
    go_ret
    exact ⟨by rw [HD.out]; rfl, Below.refl _ _⟩
  have hb1 : ((n : Int) == 0) = false := beq_eq_false_iff_ne.2 (by omega)
  have hNp : 0 < N := by
    rw [← HV.out]
    exact HTR.out.pos (fun e => by have := HXL.out; rw [e] at this; exact h0 (by simpa using this.symm))
  clear HV HTR HXL
  go_enter Tryd.func45, Tryd.ntmps45
  go_wp2_with fail
  refine (HTW.out).mono ?_
  rintro e w1 ⟨v, rfl, hv, _, hb⟩
  have HST := hide (show TzI w N N T (.slice none 0 0) v w1 from ⟨hb, hv, [], 0, World.ownsRow_nil _ _ _ _, by simp, rfl, by simp [decL], Nat.zero_le _, fun e => by omega⟩)
  obtain ⟨A, n, c, ev⟩ := hv.form
  subst ev
  clear hb hv HTW
  go_wp2
  go_loopg [5, 6] N (fun V vo vl wr => V ≤ N ∧ Hid (TzI w N V T vo vl wr))
  case atStart => exact ⟨Nat.le_refl _, HST⟩
  case round =>
    clear HST c1
    obtain ⟨hVN, hrel⟩ := hrel
    obtain ⟨A, n, c, xs, rfl, _, hl, ht, hv, hn⟩ := big_len hrel.out.big hVN hN
    obtain ⟨ds, t, hob, hd10, hdl, hND, htT, hz⟩ := hrel.out.mem
    have HBG := hide hrel.out.big
    have HB := hide hrel.out.bel
    have HOB := hide hob
    have HD10 := hide hd10
    have HDL := Lib.hid hdl
    have HND := Lib.hid hND
    have HZ := hide hz
    have HXL := Lib.hid hl.1
    rcases Nat.eq_zero_or_pos n with h9 | h9
    · have hV0 : gk = 0 := by rw [← hv, List.eq_nil_of_length_eq_zero (hl.1.trans h9)]; rfl
      subst hV0 h9
      obtain ⟨wa, rfl⟩ : ∃ wa, wa = wr := ⟨wr, rfl⟩
      have hts : 0 < t := by
        rcases Nat.eq_zero_or_pos t with e | e
        · subst e
          rw [List.eq_nil_of_length_eq_zero hdl] at hND
          simp [decL] at hND
          omega
        · exact e
      obtain ⟨g, cap, cur, rfl, hg, hbk, hcs, hlc, hcl⟩ := own_form HOB.out (by rw [HDL.out]; exact hts)
      rw [HDL.out] at hlc hcl
      rw [HDL.out]
      have d0 := (HB.out.cell (p := ⟨x, 0, none⟩) lx).trans c0
      have HRI := hide (show RevI wa g ds t 0 cap wa from ⟨World.grownBy.refl wa _, cur, hbk, hcs, fun p hp => by unfold swapF; rw [if_neg (by omega)]; exact hcl p hp⟩)
      have HDN := Lib.hid (show decL ds = N by rw [hND]; simp)
      have HZ2 := hide (hz rfl)
      clear hrel hob hd10 hdl hND hz hl ht hv hbk hcs hcl HBG HND HOB HZ
      go_wp2
      go_loopw [8, 9] (fun iv jv wi => ∃ k : Nat, k ≤ t ∧ iv = .int .i64 k ∧ jv = .int .i64 ((t : Int) - 1 - k) ∧ Hid (RevI wa g ds t k cap wi)) (fun iv _ _ => t - (intOf iv).toNat)
      case atStart => exact ⟨0, Nat.zero_le _, rfl, by simp, HRI⟩
      case round =>
        clear HRI
        obtain ⟨k, hk, rfl, rfl, hR⟩ := hrel
        by_cases hlt : (k : Int) < (t : Int) - 1 - k
        · obtain ⟨j, hj⟩ : ∃ j : Nat, j = t - 1 - k := ⟨_, rfl⟩
          have hji : ((t : Int) - 1 - k) = (j : Int) := by omega
          rw [hji] at hlt ⊢
          have hkj : k < j := by omega
          have hjm : j < t := by omega
          obtain ⟨cur, hbk, hsz, hcl⟩ := hR.out.mem
          have HJ := Lib.hid hj
          have hkI : (k : Int) < (t : Int) := by omega
          have hjI : (j : Int) < (t : Int) := by omega
          have hk0 : (0 : Int) ≤ (k : Int) := by omega
          have hj0 : (0 : Int) ≤ (j : Int) := by omega
          have c1 : wr.cell? ⟨g, k, none⟩ = some (byteV (ds.getD k 0)) := by
            rw [hbk.cell k, hcl k (by omega)]; unfold swapF; rw [if_neg (by omega)]
          have c2 : wr.cell? ⟨g, j, none⟩ = some (byteV (ds.getD j 0)) := by
            rw [hbk.cell j, hcl j (by omega)]; unfold swapF; rw [if_neg (by omega)]
          have f1 := hbk.frozen k
          have f2 := hbk.frozen j
          have hne : j ≠ k := by omega
          have hne2 : k ≠ j := by omega
          have HNX := hide (show RevI wa g ds t (k + 1) cap ((wr.setCell ⟨g, k, none⟩ (byteV (ds.getD j 0))).setCell ⟨g, j, none⟩ (byteV (ds.getD k 0))) from by
            refine ⟨only_setCell (only_setCell hR.out.gr (.inl rfl) _) (.inl rfl) _, _, (hbk.set_ k _).set_ j _, by simp [hsz], fun p hp => ?_⟩
            rw [Array.getElem?_setIfInBounds, Array.getElem?_setIfInBounds]
            unfold swapF
            have hp2 := hcl p hp
            unfold swapF at hp2
            by_cases h1 : j = p
            · subst h1
              rw [if_pos rfl, if_pos (by simp [hsz]; omega), if_pos (by omega), show t - 1 - j = k by omega]
            · rw [if_neg h1]
              by_cases h2 : k = p
              · subst h2
                rw [if_pos rfl, if_pos (by omega), if_pos (by omega), ← hj]
              · rw [if_neg h2, hp2]
                by_cases h3 : p < k ∨ t - k ≤ p
                · rw [if_pos h3, if_pos (by omega)]
                · rw [if_neg h3, if_neg (by omega)])
          clear hcl hR hbk hsz hj hji
          unfold byteV at c1 c2 HNX
          generalize ds.getD k 0 = x at c1 HNX
          generalize ds.getD j 0 = y at c2 HNX
          go_wp2
          go_roundw
          case rel =>
            rw [Int.natCast_add 48 x, Int.natCast_add 48 y] at HNX
            exact ⟨k + 1, by omega, by go_num, by congr 1; have := HJ.out; omega, HNX⟩
          case measure => simp [intOf]; omega
        · have hge : ¬ ((k : Int) < (t : Int) - 1 - k) := hlt
          obtain ⟨cur, hbk, hsz, hcl⟩ := hR.out.mem
          have HSW := hide (sw_fine (f := swapF ds t k) HD10.out HDL.out hts HZ2.out HDN.out (fun p hp => by
            unfold swapF
            by_cases h3 : p < k ∨ t - k ≤ p
            · rw [if_pos h3]
            · rw [if_neg h3, show t - 1 - p = p by omega]))
          have hcv := run_convert_bytes_back (P := Tryd.prog) wr 59 9 5 ⟨g, 0, none⟩ cap (Lib.decDigits N) Tryd.underlying59 Tryd.underlying5 Tryd.underlying9 (fun j hj => by
            have e1 : ((⟨g, 0, none⟩ : Addr).add j) = ⟨g, j, none⟩ := by
              unfold Addr.add
              split
              · rename_i h9; rw [h9]
              · simp
            have hjt : j < t := by have := HSW.out.1; omega
            rw [e1, hbk.cell j, hcl j hjt]
            exact congrArg some (HSW.out.2 j hj))
          rw [HSW.out.1] at hcv
          have HBF := hide (HB.out.grown hR.out.gr HB.out.size (fun i hi => by cases hi; exact hg))
          clear hR hbk hcl
          go_wp2
          go_ret
          exact ⟨rfl, HBF.out⟩
    · have hV0 : 0 < gk := by
        rw [← hv]
        exact ht.pos (fun e => by rw [e] at hl; have := hl.1; simp at this; omega)
      have HSM := hide (small_any _ gk wr HBG.out (Lib.hid (Nat.lt_of_le_of_lt hVN hN.out)))
      obtain ⟨q, HQQ⟩ : ∃ q, Hid (gk / 10 = q) := ⟨_, Lib.hid rfl⟩
      obtain ⟨s, HSS⟩ : ∃ s, Hid (gk % 10 = s) := ⟨_, Lib.hid rfl⟩
      unfold SmallPost at HSM
      rw [HQQ.out, HSS.out] at HSM
      have hs10 : s < 10 := by rw [← HSS.out]; omega
      have HNX := Lib.hid (tz_next HND.out HDL.out HQQ.out HSS.out)
      have hts := tz_more HND.out hV0 hT.out
      have hqN : q < gk := by rw [← HQQ.out]; omega
      have HZN := hide (show q = 0 → (ds ++ [s]).getD (t + 1 - 1) 0 ≠ 0 from fun e => by
        rw [Nat.add_sub_cancel, List.getD_eq_getElem?_getD, ← HDL.out, List.getElem?_append_right (Nat.le_refl _), Nat.sub_self]
        have := HSS.out
        have := HQQ.out
        simp
        omega)
      have HLE := Lib.hid (show ds.length ≤ 100000000 by rw [HDL.out]; omega)
      have hbn : ((n : Int) > 0) := by omega
      clear hrel hob hd10 hdl hND hz hl ht hv HBG HXL
      go_wp2_with fail
      refine (HSM.out).mono ?_
      rintro e w2 ⟨v2, rfl, hv2, hn2, hb2⟩
      have HV2 := hide hv2
      have HB2 := hide (HB.out.trans (hb2.mono HB.out.size))
      have HO2 := hide (HOB.out.below hb2)
      have HN2 := hide hn2
      clear hv2 hn2 hb2
      have HOA := hide (HO2.out.below ((Below.refl w2.heap.size w2).alloc (Nat.le_refl _) (.cells #[.int .u8 (48 + (s : Int))] 5)))
      have HBA := hide (HB2.out.alloc HB2.out.size (.cells #[.int .u8 (48 + (s : Int))] 5))
      have HVA := hide (HV2.out.below ((Below.refl w2.heap.size w2).alloc (Nat.le_refl _) (.cells #[.int .u8 (48 + (s : Int))] 5)))
      have HCA := Lib.hid (show (w2.alloc (.cells #[.int .u8 (48 + (s : Int))] 5)).cell? ⟨w2.heap.size, 0, none⟩ = some (byteV s) by
        unfold byteV
        simp)
      have HSZ := Lib.hid HBA.out.size
      have HLT := hide (World.ownsRow.lt HOA.out)
      go_wp2_with (at_builtin; refine appB _ rfl _ _ 59 rfl w.heap.size Tryd.underlying59 _ ds rfl HOA.out w2.heap.size 1 rfl s HCA.out HLE.out HSZ.out ?_; intro v9 w9 ho9 hg9 hor9; have HO9 := hide ho9; have HB9 := hide (HBA.out.grown hg9 HSZ.out (fun k hk => (HLT.out k hk).1)); have HG9 := hide hg9; clear ho9 hg9 hor9)
      go_roundg q
      case rel => exact ⟨by omega, hide ⟨HB9.out, HVA.out.grown HG9.out (fun ad n c e => fun e2 => by
        have h1 := HN2.out ad n c e
        have h2 := (World.ownsRow.lt HOB.out _ e2.symm).2
        omega), ds ++ [s], t + 1, HO9.out, fun d hd => by
          rcases List.mem_append.1 hd with hd | hd
          · exact HD10.out d hd
          · rw [List.mem_singleton.1 hd]; exact hs10, by rw [List.length_append, HDL.out, List.length_singleton], HNX.out, hts, HZN.out⟩⟩
      case measure => omega
theorem intString_any (x N T : Nat) (w : World) (h : IntAt w x N) (hN : Hid (N < 4294967296 ^ 1000)) (hT : Hid (N < 10 ^ T)) (hT2 : T ≤ 1000000) :
    Calls Tryd.prog 21 #[.pointer (some ⟨x, 0, none⟩)] w (TextPost w N) := by
  have HT := hide (intText_any x N T w h hN hT hT2)
  clear h hN hT
  go_enter Tryd.func21, Tryd.ntmps21
  go_wp2_with fail
  refine (HT.out).mono ?_
  rintro e w1 ⟨rfl, hb⟩
  go_wp2
  go_ret
  exact ⟨rfl, hb⟩
end Go.Proofs.YtpghgfenafhhbaaDoor
