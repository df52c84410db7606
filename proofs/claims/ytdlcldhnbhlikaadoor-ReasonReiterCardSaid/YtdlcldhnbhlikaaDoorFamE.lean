/-
  The empty store of any room: its steps of two families there (gen_fame.py prints these); Least, Count, List there.
-/
import Derived.Test.YtdlcldhnbhlikaaDoorFamLs
import Derived.Test.YtdlcldhnbhlikaaDoorFamLeast
import Derived.Test.YtdlcldhnbhlikaaDoorBddG
namespace Go.Proofs.YtdlcldhnbhlikaaDoor
open Go.RowKit Go.Maps

/-- The empty store of R nodes' room in block S. -/
abbrev FsE (w : World) (S B gn gu gt : Nat) (things : Int) (R : Nat) : Prop := FsV w S B gn gu gt things (emptyA R)
theorem fsE_of {w : World} {S B gn gu gt : Nat} {things : Int} {R : Nat} (k : Blk w S 58 #[.pointer (some ⟨B, 0, none⟩), .int .i64 things]) (a : ArM w B gn gu gt (emptyA R)) : FsE w S B gn gu gt things R :=
  ⟨k, a, ⟨fun h n e => (by rw [got_empty] at e; cases e), fun h n e => (by rw [got_empty] at e; cases e), fun h n e => (by rw [got_empty] at e; cases e), fun h h' n e => (by rw [got_empty] at e; cases e)⟩, fun h n e => (by rw [got_empty] at e; cases e)⟩
theorem end_i64 {x : Int} (h : endB x = true) : I64 x := by rcases endB_true h with rfl | rfl <;> (unfold I64; omega)
section
variable (S B gn gu gt : Nat) (things : Int) (R : Nat) (w : World)
theorem fHas_call (x : Int) (h : FsE w S B gn gu gt things R) (hx : I64 x) (b : Bool) (hb : endB x = b) : Calls Tryd.prog 39 #[.pointer (some ⟨B, 0, none⟩), .int .i64 x] w (fun e w' => e = .returned (.bool b) ∧ w = w') :=
  has_call_v x h hx b ((hasE R x).trans hb)
set_option maxHeartbeats 2000000 in
theorem fBoth_any (a b c : Int) (h : FsE w S B gn gu gt things R) (ia : I64 a) (ib : I64 b) (hc : (if endB a && endB b then 0 else 7) = c) :
    Calls Tryd.prog 28 #[.pointer (some ⟨S, 0, none⟩), .int .i64 a, .int .i64 b] w (fun e w' => e = .returned (errV c) ∧ w = w') := by
  have s0 := h.kS.cell 0
  cases pa : endB a with
  | false =>
    have HA := hide (fHas_call S B gn gu gt things R w a h ia _ pa)
    obtain rfl : c = 7 := by rw [← hc, pa]; rfl
    clear h hc
    go_enter Tryd.func28, Tryd.ntmps28
    go_wp2_with fail
    refine (HA.out).mono ?_
    rintro e w1 ⟨rfl, rfl⟩
    go_wp2
    go_ret
    exact ⟨by rw [errV_ne (by decide)]; rfl, rfl⟩
  | true =>
    have HA := hide (fHas_call S B gn gu gt things R w a h ia _ pa)
    cases pb : endB b with
    | false =>
      have HB := hide (fHas_call S B gn gu gt things R w b h ib _ pb)
      obtain rfl : c = 7 := by rw [← hc, pa, pb]; rfl
      clear h hc
      go_enter Tryd.func28, Tryd.ntmps28
      go_wp2_with fail
      refine (HA.out).mono ?_
      rintro e w1 ⟨rfl, rfl⟩
      go_wp2_with fail
      refine (HB.out).mono ?_
      rintro e w1 ⟨rfl, rfl⟩
      go_wp2
      go_ret
      exact ⟨by rw [errV_ne (by decide)]; rfl, rfl⟩
    | true =>
      have HB := hide (fHas_call S B gn gu gt things R w b h ib _ pb)
      obtain rfl : c = 0 := by rw [← hc, pa, pb]; rfl
      clear h hc
      go_enter Tryd.func28, Tryd.ntmps28
      go_wp2_with fail
      refine (HA.out).mono ?_
      rintro e w1 ⟨rfl, rfl⟩
      go_wp2_with fail
      refine (HB.out).mono ?_
      rintro e w1 ⟨rfl, rfl⟩
      go_wp2
      go_ret
      exact ⟨by rw [errV_zero]; rfl, rfl⟩
set_option maxRecDepth 100000 in
set_option maxHeartbeats 2000000 in
/-- A walk whose end is known at once. -/
theorem again_now (O : OpZ) (K : Bx) (a b x : Int) (hE : EndsC O K.fe) (ce : w.cell? ⟨K.e, 0, none⟩ = some (.func (.func K.fe) #[] #[])) (he : O.e a b = some x) :
    Calls Tryd.prog 55 #[.int .i64 a, .int .i64 b, .pointer (some ⟨K.e, 0, none⟩), .pointer (some ⟨K.d, 0, none⟩), .pointer (some ⟨K.s, 0, none⟩), .pointer (some ⟨K.x, 0, none⟩), .pointer (some ⟨K.g, 0, none⟩)] w (fun e w' => e = .returned (.tuple #[.int .i64 x, .nilIface]) ∧ w = w') := by
  have HE := hide (hE.2 a b w)
  have ec : ∀ (args : Array Value) (w : World), (callFunc K.fe args).run Tryd.prog w = .ok (.enter K.fe args) w := hE.1
  rw [he] at HE
  clear hE he
  go_enter Tryd.func55, Tryd.ntmps55
  go_wp2_with fail
  refine (HE.out).mono ?_
  rintro e w1 ⟨rfl, rfl⟩
  go_wp2
  go_ret2
  exact ⟨rfl, rfl⟩
theorem walk_laid (b2 : Nat) (fe fm : FuncId) : (walkW w S b2 fe fm).cell? ⟨w.heap.size + 1, 0, none⟩ = some (.func (.func fe) #[] #[]) ∧ Below w.heap.size w (walkW w S b2 fe fm) := by
  unfold walkW
  have l1 : (w.alloc (.cells #[.pointer (some ⟨S, 0, none⟩)] 23)).heap.size = w.heap.size + 1 := by simp
  refine ⟨Blk.cell (t := 65) (cs := #[.func (.func fe) #[] #[]]) ?_ 0, ?_⟩
  · exact ((((blk_at l1 _ _).alloc _).alloc _).alloc _).alloc _
  · exact cnAl (cnAl (cnAl (cnAl (cnAl (cnAl (Below.refl _ _) _) _) _) _) _) _
set_option maxRecDepth 100000 in
set_option maxHeartbeats 4000000 in
theorem walk_now (O : OpZ) (fe fm : FuncId) (a b x : Int) (b2 : Nat) (hE : EndsC O fe) (he : O.e a b = some x) :
    Calls Tryd.prog 30 #[.pointer (some ⟨S, 0, none⟩), .int .i64 a, .int .i64 b, .func (.func fe) #[] #[], .func (.func fm) #[] #[.pointer (some ⟨b2, 0, none⟩)]] w (AnsP w x 0) := by
  have hmm := @run_makeMap Tryd.prog
  have hmf : ∀ (fn : Fn) (first cap : Array Value) (w : World), (Instr.makeFunc fn first cap).run Tryd.prog w = .ok (.func fn first cap) w := by intros; rfl
  have hw := walk_laid S w b2 fe fm
  have HC := hide (again_now _ O (walkK w.heap.size b2 fe fm) a b x hE hw.1 he)
  have HD := hide hw.2
  clear hw hE he
  go_enter Tryd.func30, Tryd.ntmps30
  go_wp2_with fail
  refine (HC.out).mono ?_
  rintro e w7 ⟨rfl, rfl⟩
  go_wp2
  go_ret2
  exact ⟨by rw [errV_zero]; rfl, HD.out⟩
set_option maxRecDepth 100000 in
set_option maxHeartbeats 2000000 in
theorem eOr_in (a b v : Int) (he : eOr a b = some v) :
    Calls Tryd.prog 29 #[.pointer (some ⟨S, 0, none⟩), .int .i64 a, .int .i64 b] w (AnsP w v 0) := by
  have hmf : ∀ (fn : Fn) (first cap : Array Value) (w : World), (Instr.makeFunc fn first cap).run Tryd.prog w = .ok (.func fn first cap) w := by intros; rfl
  have HD := hide ((Below.refl w.heap.size w).alloc (Nat.le_refl _) (.cells #[.pointer (some ⟨S, 0, none⟩)] 23))
  have HC := hide (walk_now S (w.alloc (.cells #[.pointer (some ⟨S, 0, none⟩)] 23)) opOr 53 54 a b v w.heap.size endsOr he)
  clear he
  go_enter Tryd.func29, Tryd.ntmps29
  go_wp2_with fail
  refine (HC.out).mono ?_
  rintro e w7 ⟨rfl, hb⟩
  have HB := hide (HD.out.trans (hb.mono HD.out.size))
  clear hb
  rw [errV_zero]
  go_wp2
  go_ret2
  exact ⟨by rw [errV_zero]; rfl, HB.out⟩
set_option maxRecDepth 100000 in
set_option maxHeartbeats 2000000 in
theorem eLess_in (a b v : Int) (he : eLess a b = some v) :
    Calls Tryd.prog 34 #[.pointer (some ⟨S, 0, none⟩), .int .i64 a, .int .i64 b] w (AnsP w v 0) := by
  have hmf : ∀ (fn : Fn) (first cap : Array Value) (w : World), (Instr.makeFunc fn first cap).run Tryd.prog w = .ok (.func fn first cap) w := by intros; rfl
  have HD := hide ((Below.refl w.heap.size w).alloc (Nat.le_refl _) (.cells #[.pointer (some ⟨S, 0, none⟩)] 23))
  have HC := hide (walk_now S (w.alloc (.cells #[.pointer (some ⟨S, 0, none⟩)] 23)) opLess 58 59 a b v w.heap.size endsLess he)
  clear he
  go_enter Tryd.func34, Tryd.ntmps34
  go_wp2_with fail
  refine (HC.out).mono ?_
  rintro e w7 ⟨rfl, hb⟩
  have HB := hide (HD.out.trans (hb.mono HD.out.size))
  clear hb
  rw [errV_zero]
  go_wp2
  go_ret2
  exact ⟨by rw [errV_zero]; rfl, HB.out⟩
set_option maxRecDepth 100000 in
set_option maxHeartbeats 2000000 in
theorem eFree_in (a b v : Int) (he : eFree a b = some v) :
    Calls Tryd.prog 37 #[.pointer (some ⟨S, 0, none⟩), .int .i64 a, .int .i64 b] w (AnsP w v 0) := by
  have hmf : ∀ (fn : Fn) (first cap : Array Value) (w : World), (Instr.makeFunc fn first cap).run Tryd.prog w = .ok (.func fn first cap) w := by intros; rfl
  have HD := hide ((Below.refl w.heap.size w).alloc (Nat.le_refl _) (.cells #[.pointer (some ⟨S, 0, none⟩)] 23))
  have HC := hide (walk_now S (w.alloc (.cells #[.pointer (some ⟨S, 0, none⟩)] 23)) opFree 60 61 a b v w.heap.size endsFree he)
  clear he
  go_enter Tryd.func37, Tryd.ntmps37
  go_wp2_with fail
  refine (HC.out).mono ?_
  rintro e w7 ⟨rfl, hb⟩
  have HB := hide (HD.out.trans (hb.mono HD.out.size))
  clear hb
  rw [errV_zero]
  go_wp2
  go_ret2
  exact ⟨by rw [errV_zero]; rfl, HB.out⟩
set_option maxRecDepth 100000 in
set_option maxHeartbeats 2000000 in
theorem fOr_ok (a b v : Int) (h : FsE w S B gn gu gt things R) (pa : endB a = true) (pb : endB b = true) (he : eOr a b = some v) :
    Calls Tryd.prog 7 #[.pointer (some ⟨S, 0, none⟩), .int .i64 a, .int .i64 b] w (AnsP w v 0) := by
  have hmf : ∀ (fn : Fn) (first cap : Array Value) (w : World), (Instr.makeFunc fn first cap).run Tryd.prog w = .ok (.func fn first cap) w := by intros; rfl
  have HBO := hide (fBoth_any S B gn gu gt things R w a b 0 h (end_i64 pa) (end_i64 pb) (by rw [pa, pb]; rfl))
  have HC := hide (eOr_in S w a b v he)
  clear he h pa pb
  rw [errV_zero] at HBO
  go_enter Tryd.func7, Tryd.ntmps7
  go_wp2_with fail
  refine (HBO.out).mono ?_
  rintro e w1 ⟨rfl, rfl⟩
  go_wp2_with fail
  refine (HC.out).mono ?_
  rintro e w7 ⟨rfl, hb⟩
  have HB := hide hb
  clear hb
  rw [errV_zero]
  go_wp2
  go_ret2
  exact ⟨by rw [errV_zero]; rfl, HB.out⟩
set_option maxHeartbeats 2000000 in
theorem fOr_no (a b : Int) (h : FsE w S B gn gu gt things R) (ia : I64 a) (ib : I64 b) (hp : (endB a && endB b) = false) :
    Calls Tryd.prog 7 #[.pointer (some ⟨S, 0, none⟩), .int .i64 a, .int .i64 b] w (AnsP w 0 7) := by
  have HBO := hide (fBoth_any S B gn gu gt things R w a b 7 h ia ib (by rw [hp]; rfl))
  clear h hp
  rw [errV_ne (by decide)] at HBO
  go_enter Tryd.func7, Tryd.ntmps7
  go_wp2_with fail
  refine (HBO.out).mono ?_
  rintro e w1 ⟨rfl, rfl⟩
  go_wp2
  go_ret2
  exact ⟨by rw [errV_ne (by decide)]; rfl, Below.refl _ _⟩
theorem fOr_x (x : Int) (h : FsE w S B gn gu gt things R) (ix : I64 x) :
    Calls Tryd.prog 7 #[.pointer (some ⟨S, 0, none⟩), .int .i64 x, .int .i64 x] w (ErrP w (missE x)) := by
  unfold missE
  cases px : endB x with
  | false => exact (fOr_no S B gn gu gt things R w x x h ix ix (by rw [px]; rfl)).mono fun e w' hp => hp.err
  | true => exact (fOr_ok S B gn gu gt things R w x x x h px px (by rcases endB_true px with rfl | rfl <;> decide)).mono fun e w' hp => hp.err
set_option maxRecDepth 100000 in
set_option maxHeartbeats 2000000 in
theorem fAnd_ok (a b v : Int) (h : FsE w S B gn gu gt things R) (pa : endB a = true) (pb : endB b = true) (he : eAnd a b = some v) :
    Calls Tryd.prog 8 #[.pointer (some ⟨S, 0, none⟩), .int .i64 a, .int .i64 b] w (AnsP w v 0) := by
  have hmf : ∀ (fn : Fn) (first cap : Array Value) (w : World), (Instr.makeFunc fn first cap).run Tryd.prog w = .ok (.func fn first cap) w := by intros; rfl
  have HD := hide ((Below.refl w.heap.size w).alloc (Nat.le_refl _) (.cells #[.pointer (some ⟨S, 0, none⟩)] 23))
  have HBO := hide (fBoth_any S B gn gu gt things R (w.alloc (.cells #[.pointer (some ⟨S, 0, none⟩)] 23)) a b 0 (h.below HD.out) (end_i64 pa) (end_i64 pb) (by rw [pa, pb]; rfl))
  have HC := hide (walk_now S (w.alloc (.cells #[.pointer (some ⟨S, 0, none⟩)] 23)) opAnd 31 32 a b v w.heap.size endsAnd he)
  clear he h pa pb
  rw [errV_zero] at HBO
  go_enter Tryd.func8, Tryd.ntmps8
  go_wp2_with fail
  refine (HBO.out).mono ?_
  rintro e w1 ⟨rfl, rfl⟩
  go_wp2_with fail
  refine (HC.out).mono ?_
  rintro e w7 ⟨rfl, hb⟩
  have HB := hide (HD.out.trans (hb.mono HD.out.size))
  clear hb
  rw [errV_zero]
  go_wp2
  go_ret2
  exact ⟨by rw [errV_zero]; rfl, HB.out⟩
set_option maxHeartbeats 2000000 in
theorem fAnd_no (a b : Int) (h : FsE w S B gn gu gt things R) (ia : I64 a) (ib : I64 b) (hp : (endB a && endB b) = false) :
    Calls Tryd.prog 8 #[.pointer (some ⟨S, 0, none⟩), .int .i64 a, .int .i64 b] w (AnsP w 0 7) := by
  have HD := hide ((Below.refl w.heap.size w).alloc (Nat.le_refl _) (.cells #[.pointer (some ⟨S, 0, none⟩)] 23))
  have HBO := hide (fBoth_any S B gn gu gt things R (w.alloc (.cells #[.pointer (some ⟨S, 0, none⟩)] 23)) a b 7 (h.below HD.out) ia ib (by rw [hp]; rfl))
  clear h hp
  rw [errV_ne (by decide)] at HBO
  go_enter Tryd.func8, Tryd.ntmps8
  go_wp2_with fail
  refine (HBO.out).mono ?_
  rintro e w1 ⟨rfl, rfl⟩
  go_wp2
  go_ret2
  exact ⟨by rw [errV_ne (by decide)]; rfl, HD.out⟩
theorem fAnd_x (x : Int) (h : FsE w S B gn gu gt things R) (ix : I64 x) :
    Calls Tryd.prog 8 #[.pointer (some ⟨S, 0, none⟩), .int .i64 1, .int .i64 x] w (ErrP w (missE x)) := by
  unfold missE
  cases px : endB x with
  | false => exact (fAnd_no S B gn gu gt things R w 1 x h i64_one ix (by rw [px]; simp)).mono fun e w' hp => hp.err
  | true => exact (fAnd_ok S B gn gu gt things R w 1 x x h end_one px (by rcases endB_true px with rfl | rfl <;> decide)).mono fun e w' hp => hp.err
set_option maxRecDepth 100000 in
set_option maxHeartbeats 2000000 in
theorem fLess_ok (a b v : Int) (h : FsE w S B gn gu gt things R) (pa : endB a = true) (pb : endB b = true) (he : eLess a b = some v) :
    Calls Tryd.prog 9 #[.pointer (some ⟨S, 0, none⟩), .int .i64 a, .int .i64 b] w (AnsP w v 0) := by
  have hmf : ∀ (fn : Fn) (first cap : Array Value) (w : World), (Instr.makeFunc fn first cap).run Tryd.prog w = .ok (.func fn first cap) w := by intros; rfl
  have HBO := hide (fBoth_any S B gn gu gt things R w a b 0 h (end_i64 pa) (end_i64 pb) (by rw [pa, pb]; rfl))
  have HC := hide (eLess_in S w a b v he)
  clear he h pa pb
  rw [errV_zero] at HBO
  go_enter Tryd.func9, Tryd.ntmps9
  go_wp2_with fail
  refine (HBO.out).mono ?_
  rintro e w1 ⟨rfl, rfl⟩
  go_wp2_with fail
  refine (HC.out).mono ?_
  rintro e w7 ⟨rfl, hb⟩
  have HB := hide hb
  clear hb
  rw [errV_zero]
  go_wp2
  go_ret2
  exact ⟨by rw [errV_zero]; rfl, HB.out⟩
set_option maxHeartbeats 2000000 in
theorem fLess_no (a b : Int) (h : FsE w S B gn gu gt things R) (ia : I64 a) (ib : I64 b) (hp : (endB a && endB b) = false) :
    Calls Tryd.prog 9 #[.pointer (some ⟨S, 0, none⟩), .int .i64 a, .int .i64 b] w (AnsP w 0 7) := by
  have HBO := hide (fBoth_any S B gn gu gt things R w a b 7 h ia ib (by rw [hp]; rfl))
  clear h hp
  rw [errV_ne (by decide)] at HBO
  go_enter Tryd.func9, Tryd.ntmps9
  go_wp2_with fail
  refine (HBO.out).mono ?_
  rintro e w1 ⟨rfl, rfl⟩
  go_wp2
  go_ret2
  exact ⟨by rw [errV_ne (by decide)]; rfl, Below.refl _ _⟩
theorem fLess_x (x : Int) (h : FsE w S B gn gu gt things R) (ix : I64 x) :
    Calls Tryd.prog 9 #[.pointer (some ⟨S, 0, none⟩), .int .i64 x, .int .i64 1] w (ErrP w (missE x)) := by
  unfold missE
  cases px : endB x with
  | false => exact (fLess_no S B gn gu gt things R w x 1 h ix i64_one (by rw [px]; rfl)).mono fun e w' hp => hp.err
  | true => exact (fLess_ok S B gn gu gt things R w x 1 0 h px end_one (by rcases endB_true px with rfl | rfl <;> decide)).mono fun e w' hp => hp.err
set_option maxRecDepth 100000 in
set_option maxHeartbeats 2000000 in
theorem fJoin_ok (a b v : Int) (h : FsE w S B gn gu gt things R) (pa : endB a = true) (pb : endB b = true) (he : eJoin a b = some v) :
    Calls Tryd.prog 10 #[.pointer (some ⟨S, 0, none⟩), .int .i64 a, .int .i64 b] w (AnsP w v 0) := by
  have hmf : ∀ (fn : Fn) (first cap : Array Value) (w : World), (Instr.makeFunc fn first cap).run Tryd.prog w = .ok (.func fn first cap) w := by intros; rfl
  have HD := hide ((Below.refl w.heap.size w).alloc (Nat.le_refl _) (.cells #[.pointer (some ⟨S, 0, none⟩)] 23))
  have HBO := hide (fBoth_any S B gn gu gt things R (w.alloc (.cells #[.pointer (some ⟨S, 0, none⟩)] 23)) a b 0 (h.below HD.out) (end_i64 pa) (end_i64 pb) (by rw [pa, pb]; rfl))
  have HC := hide (walk_now S (w.alloc (.cells #[.pointer (some ⟨S, 0, none⟩)] 23)) opJoin 35 36 a b v w.heap.size endsJoin he)
  clear he h pa pb
  rw [errV_zero] at HBO
  go_enter Tryd.func10, Tryd.ntmps10
  go_wp2_with fail
  refine (HBO.out).mono ?_
  rintro e w1 ⟨rfl, rfl⟩
  go_wp2_with fail
  refine (HC.out).mono ?_
  rintro e w7 ⟨rfl, hb⟩
  have HB := hide (HD.out.trans (hb.mono HD.out.size))
  clear hb
  rw [errV_zero]
  go_wp2
  go_ret2
  exact ⟨by rw [errV_zero]; rfl, HB.out⟩
set_option maxHeartbeats 2000000 in
theorem fJoin_no (a b : Int) (h : FsE w S B gn gu gt things R) (ia : I64 a) (ib : I64 b) (hp : (endB a && endB b) = false) :
    Calls Tryd.prog 10 #[.pointer (some ⟨S, 0, none⟩), .int .i64 a, .int .i64 b] w (AnsP w 0 7) := by
  have HD := hide ((Below.refl w.heap.size w).alloc (Nat.le_refl _) (.cells #[.pointer (some ⟨S, 0, none⟩)] 23))
  have HBO := hide (fBoth_any S B gn gu gt things R (w.alloc (.cells #[.pointer (some ⟨S, 0, none⟩)] 23)) a b 7 (h.below HD.out) ia ib (by rw [hp]; rfl))
  clear h hp
  rw [errV_ne (by decide)] at HBO
  go_enter Tryd.func10, Tryd.ntmps10
  go_wp2_with fail
  refine (HBO.out).mono ?_
  rintro e w1 ⟨rfl, rfl⟩
  go_wp2
  go_ret2
  exact ⟨by rw [errV_ne (by decide)]; rfl, HD.out⟩
theorem fJoin_x (x : Int) (h : FsE w S B gn gu gt things R) (ix : I64 x) :
    Calls Tryd.prog 10 #[.pointer (some ⟨S, 0, none⟩), .int .i64 1, .int .i64 x] w (ErrP w (missE x)) := by
  unfold missE
  cases px : endB x with
  | false => exact (fJoin_no S B gn gu gt things R w 1 x h i64_one ix (by rw [px]; simp)).mono fun e w' hp => hp.err
  | true => exact (fJoin_ok S B gn gu gt things R w 1 x x h end_one px (by rcases endB_true px with rfl | rfl <;> decide)).mono fun e w' hp => hp.err
set_option maxRecDepth 100000 in
set_option maxHeartbeats 2000000 in
theorem fWithout_ok (a b v : Int) (h : FsE w S B gn gu gt things R) (pa : endB a = true) (pb : endB b = true) (he : eFree a b = some v) :
    Calls Tryd.prog 11 #[.pointer (some ⟨S, 0, none⟩), .int .i64 a, .int .i64 b] w (AnsP w v 0) := by
  have hmf : ∀ (fn : Fn) (first cap : Array Value) (w : World), (Instr.makeFunc fn first cap).run Tryd.prog w = .ok (.func fn first cap) w := by intros; rfl
  have HBO := hide (fBoth_any S B gn gu gt things R w a b 0 h (end_i64 pa) (end_i64 pb) (by rw [pa, pb]; rfl))
  have HC := hide (eFree_in S w a b v he)
  clear he h pa pb
  rw [errV_zero] at HBO
  go_enter Tryd.func11, Tryd.ntmps11
  go_wp2_with fail
  refine (HBO.out).mono ?_
  rintro e w1 ⟨rfl, rfl⟩
  go_wp2_with fail
  refine (HC.out).mono ?_
  rintro e w7 ⟨rfl, hb⟩
  have HB := hide hb
  clear hb
  rw [errV_zero]
  go_wp2
  go_ret2
  exact ⟨by rw [errV_zero]; rfl, HB.out⟩
set_option maxHeartbeats 2000000 in
theorem fWithout_no (a b : Int) (h : FsE w S B gn gu gt things R) (ia : I64 a) (ib : I64 b) (hp : (endB a && endB b) = false) :
    Calls Tryd.prog 11 #[.pointer (some ⟨S, 0, none⟩), .int .i64 a, .int .i64 b] w (AnsP w 0 7) := by
  have HBO := hide (fBoth_any S B gn gu gt things R w a b 7 h ia ib (by rw [hp]; rfl))
  clear h hp
  rw [errV_ne (by decide)] at HBO
  go_enter Tryd.func11, Tryd.ntmps11
  go_wp2_with fail
  refine (HBO.out).mono ?_
  rintro e w1 ⟨rfl, rfl⟩
  go_wp2
  go_ret2
  exact ⟨by rw [errV_ne (by decide)]; rfl, Below.refl _ _⟩
theorem fWithout_x (x : Int) (h : FsE w S B gn gu gt things R) (ix : I64 x) :
    Calls Tryd.prog 11 #[.pointer (some ⟨S, 0, none⟩), .int .i64 x, .int .i64 x] w (ErrP w (missE x)) := by
  unfold missE
  cases px : endB x with
  | false => exact (fWithout_no S B gn gu gt things R w x x h ix ix (by rw [px]; rfl)).mono fun e w' hp => hp.err
  | true => exact (fWithout_ok S B gn gu gt things R w x x 0 h px px (by rcases endB_true px with rfl | rfl <;> decide)).mono fun e w' hp => hp.err
set_option maxHeartbeats 2000000 in
theorem fLeast_ok (x : Int) (h : FsE w S B gn gu gt things R) (p : endB x = true) :
    Calls Tryd.prog 12 #[.pointer (some ⟨S, 0, none⟩), .int .i64 x] w (AnsP w x 0) := by
  have s0 := h.kS.cell 0
  have hx := end_i64 p
  have HGT := hide (arGet_none B gn gu gt (emptyA R) x w h.ar hx (got_empty R x))
  have HH := hide (fun w' (hb : Below w.heap.size w w') => fHas_call S B gn gu gt things R w' x (h.below hb) hx _ p)
  have HS := hide h
  clear h p
  go_enter Tryd.func12, Tryd.ntmps12
  go_wp2_with fail
  refine (HGT.out).mono ?_
  rintro e w1 ⟨rfl, hb⟩
  have HB := hide (hb.alloc hb.size (.cells #[.int .i64 0, .int .i64 0, .int .i64 0] 71))
  have s0 := (HS.out.below HB.out).kS.cell 0
  have HH2 := hide (HH.out _ HB.out)
  clear hb HH
  go_wp2_with fail
  refine (HH2.out).mono ?_
  rintro e w2 ⟨rfl, rfl⟩
  go_wp2
  go_ret2
  exact ⟨by rw [errV_zero]; rfl, HB.out⟩
set_option maxHeartbeats 2000000 in
theorem fLeast_no (x : Int) (h : FsE w S B gn gu gt things R) (hx : I64 x) (p : endB x = false) :
    Calls Tryd.prog 12 #[.pointer (some ⟨S, 0, none⟩), .int .i64 x] w (AnsP w 0 7) := by
  have s0 := h.kS.cell 0
  have HGT := hide (arGet_none B gn gu gt (emptyA R) x w h.ar hx (got_empty R x))
  have HH := hide (fun w' (hb : Below w.heap.size w w') => fHas_call S B gn gu gt things R w' x (h.below hb) hx _ p)
  have HS := hide h
  clear h p
  go_enter Tryd.func12, Tryd.ntmps12
  go_wp2_with fail
  refine (HGT.out).mono ?_
  rintro e w1 ⟨rfl, hb⟩
  have HB := hide (hb.alloc hb.size (.cells #[.int .i64 0, .int .i64 0, .int .i64 0] 71))
  have s0 := (HS.out.below HB.out).kS.cell 0
  have HH2 := hide (HH.out _ HB.out)
  clear hb HH
  go_wp2_with fail
  refine (HH2.out).mono ?_
  rintro e w2 ⟨rfl, rfl⟩
  go_wp2
  go_ret2
  exact ⟨by rw [errV_ne (by decide)]; rfl, HB.out⟩
theorem fLeast_x (x : Int) (h : FsE w S B gn gu gt things R) (hx : I64 x) :
    Calls Tryd.prog 12 #[.pointer (some ⟨S, 0, none⟩), .int .i64 x] w (ErrP w (missE x)) := by
  unfold missE
  cases p : endB x with
  | false => exact (fLeast_no S B gn gu gt things R w x h hx p).mono fun e w' hp => hp.err
  | true => exact (fLeast_ok S B gn gu gt things R w x h p).mono fun e w' hp => hp.err
set_option maxHeartbeats 2000000 in
theorem fCount_no (x : Int) (h : FsE w S B gn gu gt things R) (hx : I64 x) (p : endB x = false) :
    Calls Tryd.prog 13 #[.pointer (some ⟨S, 0, none⟩), .int .i64 x] w (fun e w' => ∃ Av nv cv, e = .returned (.tuple #[.agg #[.slice Av nv cv], errV 7]) ∧ Below w.heap.size w w') := by
  have hb1 := (Below.refl w.heap.size w).alloc (Nat.le_refl _) (.cells #[.pointer (some ⟨S, 0, none⟩)] 23)
  have hb2 := hb1.alloc hb1.size (.cells #[.slice none 0 0] 35)
  have k1 := (Blk.new w 23 #[.pointer (some ⟨S, 0, none⟩)]).alloc (.cells #[.slice none 0 0] 35)
  have k2 := Blk.new (w.alloc (.cells #[.pointer (some ⟨S, 0, none⟩)] 23)) 35 #[.slice none 0 0]
  have z1 : (w.alloc (.cells #[.pointer (some ⟨S, 0, none⟩)] 23)).heap.size = w.heap.size + 1 := by simp
  rw [z1] at k2
  have h2 := h.below hb2
  have HH := hide (fHas_call S B gn gu gt things R _ x h2 hx _ p)
  have s0 := h2.kS.cell 0
  have c4 := k2.cell 0
  have f4 := k2.frozen 0
  have d9 := (k2.set_ 0 (.slice none 0 0)).cell 0
  have HB := hide hb2
  have HB9 := hide (hb2.setCell (p := ⟨w.heap.size + 1, 0, none⟩) (Nat.le_succ _) (.slice none 0 0))
  clear h hb1 hb2 k2 z1 h2 p
  go_enter Tryd.func13, Tryd.ntmps13
  go_wp2_with fail
  refine (HH.out).mono ?_
  rintro e w1 ⟨rfl, rfl⟩
  go_wp2
  first
    | exact bodyPost_ret (v := .tuple #[.agg #[.slice none 0 0], .iface 29 (.int .i64 7)]) (by simp [results, Tryd.results13, go_sem, d9]) rfl ⟨_, _, _, by rw [errV_ne (by decide)], HB9.out⟩
    | exact bodyPost_ret (v := .tuple #[.agg #[.slice none 0 0], .iface 29 (.int .i64 7)]) (by simp [results, Tryd.results13, go_sem, c4]) rfl ⟨_, _, _, by rw [errV_ne (by decide)], HB.out⟩
theorem fCount_x (x : Int) (h : FsE w S B gn gu gt things R) (hx : I64 x) :
    Calls Tryd.prog 13 #[.pointer (some ⟨S, 0, none⟩), .int .i64 x] w (fun e w' => ∃ Av nv cv, e = .returned (.tuple #[.agg #[.slice Av nv cv], errV (missE x)]) ∧ Below w.heap.size w w') := by
  unfold missE
  cases p : endB x with
  | false => exact fCount_no S B gn gu gt things R w x h hx p
  | true =>
    exact (fzCount_v S B gn gu gt things (emptyA R) w x h ((hasE R x).trans p)).mono fun e w' hp => by
      obtain ⟨v, he, hv, hb⟩ := hp
      obtain ⟨Av, nv, cv, rfl⟩ := hv.form
      exact ⟨Av, nv, cv, by rw [he, if_pos rfl, errV_zero], hb⟩
set_option maxHeartbeats 2000000 in
theorem fList_no (x most : Int) (h : FsE w S B gn gu gt things R) (hx : I64 x) (p : endB x = false) :
    Calls Tryd.prog 14 #[.pointer (some ⟨S, 0, none⟩), .int .i64 x, .int .i64 most] w (ErrP w 7) := by
  have hb1 := (Below.refl w.heap.size w).alloc (Nat.le_refl _) (.cells #[.pointer (some ⟨S, 0, none⟩)] 23)
  have HK1 := hide (Blk.new w 23 #[.pointer (some ⟨S, 0, none⟩)])
  have HC := hide (fCount_no S B gn gu gt things R _ x (h.below hb1) hx p)
  have HB := hide hb1
  clear h hb1 p
  rw [errV_ne (by decide)] at HC
  go_enter Tryd.func14, Tryd.ntmps14
  go_wp2_with fail
  refine (HC.out).mono ?_
  rintro e w2 ⟨Av, nv, cv, rfl, hb⟩
  have HB2 := hide ((HB.out.trans (hb.mono HB.out.size)).alloc (HB.out.trans (hb.mono HB.out.size)).size (.cells #[.slice Av nv cv] 35))
  clear hb
  go_wp2
  go_ret2
  exact ⟨_, by rw [errV_ne (by decide)]; rfl, HB2.out⟩
theorem num_end {x : Int} (p : endB x = true) : numS (fam (emptyA R) x) ≤ 1 := by
  rw [numS_none (got_empty R x) (endB_true p)]
  rcases endB_true p with rfl | rfl <;> decide
theorem fList_x (x most : Int) (h : FsE w S B gn gu gt things R) (hx : I64 x) (hm : 1 ≤ most) :
    Calls Tryd.prog 14 #[.pointer (some ⟨S, 0, none⟩), .int .i64 x, .int .i64 most] w (ErrP w (missE x)) := by
  unfold missE
  cases p : endB x with
  | false => exact fList_no S B gn gu gt things R w x most h hx p
  | true =>
    exact (fzList_v S B gn gu gt things (emptyA R) w x most h ((hasE R x).trans p)).mono fun e w' hp => by
      have hn := num_end R p
      obtain ⟨⟨_, v, he, _⟩ | ⟨hbad, _⟩, hb⟩ := hp
      · exact ⟨v, by rw [he, if_pos rfl, errV_zero], hb⟩
      · omega
end
end Go.Proofs.YtdlcldhnbhlikaaDoor
