/- The walks of the statements' own 'makes', 'swaps', 'loads' and 'touches' (printed by mksteps11.py). -/
import Derived.Test.YtlaffmdflleeeaaDoorDuo
import Derived.Test.YtlaffmdflleeeaaDoorInts11
namespace Go.Proofs.YtlaffmdflleeeaaDoor
open Go Go.RowKit
set_option linter.unusedVariables false

variable {o : List Nat} {w0 w : World} {b rb : Nat} {A A' : ASt} {rs rs' : Int}

/-- A step, as it is passed. -/
structure StV where
  k : Int
  a : Int
  b : Int
  c : Int
  v : Int
  w : Int
  t : ByteArray
def StV.cells (x : StV) : Array Value := #[.int .i64 x.k, .int .i64 x.a, .int .i64 x.b, .int .i64 x.c, .int .u64 x.v, .int .u64 x.w, .string x.t]
structure StV.ok (x : StV) : Prop where
  v0 : 0 ≤ x.v
  v1 : x.v < 18446744073709551616
  w0 : 0 ≤ x.w
  w1 : x.w < 18446744073709551616
def bxF (k a b c v q : Int) (t : ByteArray) (i : Nat) : Value := if i = 0 then .int .i64 k else if i = 1 then .int .i64 a else if i = 2 then .int .i64 b else if i = 3 then .int .i64 c else if i = 4 then .int .u64 v else if i = 5 then .int .u64 q else .string t

theorem box_cells {X : Part} {g : Nat} {k a bb c v q : Int} {t : ByteArray} (h : Has o w0 w (X.sep (.blk g 7 62 (bxF k a bb c v q t)))) :
    w.cell? ⟨g, 0, none⟩ = some (.int .i64 k) ∧ w.cell? ⟨g, 1, none⟩ = some (.int .i64 a) ∧ w.cell? ⟨g, 2, none⟩ = some (.int .i64 bb) ∧ w.cell? ⟨g, 3, none⟩ = some (.int .i64 c) ∧ w.cell? ⟨g, 4, none⟩ = some (.int .u64 v) ∧ w.cell? ⟨g, 5, none⟩ = some (.int .u64 q) ∧ w.cell? ⟨g, 6, none⟩ = some (.string t) := by
  obtain ⟨_, h1, _⟩ := h.right
  exact ⟨(h1.blkAt (i := 0) (by omega)).1, (h1.blkAt (i := 1) (by omega)).1, (h1.blkAt (i := 2) (by omega)).1, (h1.blkAt (i := 3) (by omega)).1, (h1.blkAt (i := 4) (by omega)).1, (h1.blkAt (i := 5) (by omega)).1, (h1.blkAt (i := 6) (by omega)).1⟩
theorem box_made {X : Part} (k a bb c v q : Int) (t : ByteArray) (h : Has o w0 w X) : Has o w0 (w.alloc (.cells #[.int .i64 k, .int .i64 a, .int .i64 bb, .int .i64 c, .int .u64 v, .int .u64 q, .string t] 62)) (X.sep (.blk w.heap.size 7 62 (bxF k a bb c v q t))) :=
  h.beside (Has.madeBlk #[.int .i64 k, .int .i64 a, .int .i64 bb, .int .i64 c, .int .u64 v, .int .u64 q, .string t] 62 (bxF k a bb c v q t) 7 rfl (fun i hi => match i, hi with | 0, _ => rfl | 1, _ => rfl | 2, _ => rfl | 3, _ => rfl | 4, _ => rfl | 5, _ => rfl | 6, _ => rfl))

theorem mod3 (k : Int) : (wrap64 (k.tmod 3 + 3)).tmod 3 = 0 ∨ (wrap64 (k.tmod 3 + 3)).tmod 3 = 1 ∨ (wrap64 (k.tmod 3 + 3)).tmod 3 = 2 := by
  have h1 := Int.tmod_lt_of_pos k (b := 3) (by omega)
  have h2 := Int.lt_tmod_of_pos k (b := 3) (by omega)
  generalize k.tmod 3 = m at *
  rw [show wrap64 (m + 3) = m + 3 by unfold wrap64; omega, Int.tmod_eq_emod_of_nonneg (by omega)]
  omega

structure Small (A : ASt) (m : Nat) : Prop where
  nN : A.nN ≤ m
  nV : A.nV ≤ m
  nT : A.nT ≤ m
theorem Small.nxt {m : Nat} (h : Small A m) (n : Nxt A A') : Small A' (m + 1) := ⟨by have := n.nN; have := h.nN; omega, by have := n.nV; have := h.nV; omega, by have := n.nT; have := h.nT; omega⟩

def touchK (k : Int) : Bool := decide (k = 4) || decide (k = 5) || decide (k = 6) || decide (k = 8) || decide (k = 9) || decide (k = 10) || decide (k = 11) || decide (k = 12) || decide (k = 14) || decide (k = 15) || decide (k = 7)
def own1 (k : Int) : Bool := decide (k = 1) || decide (k = 2) || decide (k = 3) || decide (k = 4) || decide (k = 16)
def own2 (k : Int) : Bool := decide (k = 5) || decide (k = 10) || decide (k = 15)
def own3 (k : Int) : Bool := decide (k = 6) || decide (k = 11) || decide (k = 14) || decide (k = 8) || decide (k = 9) || decide (k = 12) || decide (k = 13) || decide (k = 17) || decide (k = 7) || decide (k = 18)

/-- What one of the three does. -/
def Did (own : Int → Bool) (k : Int) (A A' : ASt) (rs rs' : Int) : Prop :=
  Nxt A A' ∧ (own k = false → A' = A ∧ rs' = rs) ∧ ∃ d : Bool, touchK k = true → A'.steps = stp d A.steps ∧ rs' = stp d rs
theorem Did.none {own : Int → Bool} {k : Int} : Did own k A A rs rs := ⟨.refl A, fun _ => ⟨rfl, rfl⟩, false, fun _ => ⟨rfl, rfl⟩⟩

set_option maxHeartbeats 4000000 in
set_option maxRecDepth 100000 in
theorem makes_1 (h : Has o w0 w (.two b rb A A rs)) (hT : TabAt w0) (ho : 0 ∉ o) {m : Nat} (hm : Small A m) (hm9 : m ≤ 100000) (k a bb c v q : Int) (t : ByteArray) (hv0 : 0 ≤ v) (hv1 : v < 18446744073709551616) (hq0 : 0 ≤ q) (hq1 : q < 18446744073709551616) (hk : k = 1) :
    Calls Tryd.prog 29 #[P0 b, P0 rb, .agg #[.int .i64 k, .int .i64 a, .int .i64 bb, .int .i64 c, .int .u64 v, .int .u64 q, .string t]] w fun e w' => e = .returned (.bool true) ∧ ∃ A' rs', Did own1 k A A' rs rs' ∧ Has o w0 w' (.two b rb A' A' rs') := by
  have hX := box_made k a bb c v q t h
  have hV9 : A.nV ≤ 1000000000 := by have := hm.nV; omega
  have hN9 : A.nN ≤ 1000000000 := by have := hm.nN; omega
  have hT9 : A.nT ≤ 1000000000 := by have := hm.nT; omega
  obtain ⟨o1, h1, p1, _, b1⟩ := hX.left
  have hT1 : TabAt (w.alloc (.cells #[.int .i64 k, .int .i64 a, .int .i64 bb, .int .i64 c, .int .u64 v, .int .u64 q, .string t] 62)) := hT.kept hX.keeps ho
  have ho1 := tab_out hT ho p1
  obtain ⟨x0, x1, D⟩ := duo_node h1 hT1 ho1 hN9
  obtain ⟨A', d, rs', nx, ht, C1, C2⟩ := D.beside b1
  have HC1 := Lib.hid C1
  have HC2 := Lib.hid C2
  have HNX := Lib.hid nx
  have HTT := Lib.hid ht
  obtain ⟨k0, k1, k2, k3, k4, k5, k6⟩ := box_cells hX
  have HK := Lib.hid hk
  subst hk
  clear h hX h1 b1 p1 D C1 C2 nx ht hT ho hT1 ho1 hm
  go_enter Tryd.func29, Tryd.ntmps29
  go_wp2_with fail
  refine HC1.out.mono ?_
  rintro e w2 ⟨rfl, st, hs, hX⟩
  have HX := Lib.hid hX
  have HS := Lib.hid hs
  obtain ⟨j0, j1, j2, j3, j4, j5, j6⟩ := box_cells hX
  clear hX hs HC1
  go_wp2_with fail
  refine (HC2.out _ _ HX.out).mono ?_
  rintro e w3 ⟨rfl, hX⟩
  have HX3 := Lib.hid hX
  clear hX HC2 HX
  go_wp2_with fail
  go_ret
  exact ⟨rfl, A'.at st, rs', ⟨⟨HNX.out.size, HNX.out.ab, HNX.out.nN, HNX.out.nV, HNX.out.nT⟩, fun e => (by cases e), d, fun e => (by cases e)⟩, HX3.out.fst⟩

set_option maxHeartbeats 4000000 in
set_option maxRecDepth 100000 in
theorem makes_2 (h : Has o w0 w (.two b rb A A rs)) (hT : TabAt w0) (ho : 0 ∉ o) {m : Nat} (hm : Small A m) (hm9 : m ≤ 100000) (k a bb c v q : Int) (t : ByteArray) (hv0 : 0 ≤ v) (hv1 : v < 18446744073709551616) (hq0 : 0 ≤ q) (hq1 : q < 18446744073709551616) (hk : k = 2) :
    Calls Tryd.prog 29 #[P0 b, P0 rb, .agg #[.int .i64 k, .int .i64 a, .int .i64 bb, .int .i64 c, .int .u64 v, .int .u64 q, .string t]] w fun e w' => e = .returned (.bool true) ∧ ∃ A' rs', Did own1 k A A' rs rs' ∧ Has o w0 w' (.two b rb A' A' rs') := by
  have hX := box_made k a bb c v q t h
  have hV9 : A.nV ≤ 1000000000 := by have := hm.nV; omega
  have hN9 : A.nN ≤ 1000000000 := by have := hm.nN; omega
  have hT9 : A.nT ≤ 1000000000 := by have := hm.nT; omega
  obtain ⟨o1, h1, p1, _, b1⟩ := hX.left
  have hT1 : TabAt (w.alloc (.cells #[.int .i64 k, .int .i64 a, .int .i64 bb, .int .i64 c, .int .u64 v, .int .u64 q, .string t] 62)) := hT.kept hX.keeps ho
  have ho1 := tab_out hT ho p1
  obtain ⟨x0, x1, D⟩ := duo_version h1 hT1 ho1 hV9 t v a hv0 hv1
  obtain ⟨A', d, rs', nx, ht, C1, C2⟩ := D.beside b1
  have HC1 := Lib.hid C1
  have HC2 := Lib.hid C2
  have HNX := Lib.hid nx
  have HTT := Lib.hid ht
  obtain ⟨k0, k1, k2, k3, k4, k5, k6⟩ := box_cells hX
  have HK := Lib.hid hk
  subst hk
  clear h hX h1 b1 p1 D C1 C2 nx ht hT ho hT1 ho1 hm
  go_enter Tryd.func29, Tryd.ntmps29
  go_wp2_with fail
  refine HC1.out.mono ?_
  rintro e w2 ⟨rfl, st, hs, hX⟩
  have HX := Lib.hid hX
  have HS := Lib.hid hs
  obtain ⟨j0, j1, j2, j3, j4, j5, j6⟩ := box_cells hX
  clear hX hs HC1
  go_wp2_with fail
  refine (HC2.out _ _ HX.out).mono ?_
  rintro e w3 ⟨rfl, hX⟩
  have HX3 := Lib.hid hX
  clear hX HC2 HX
  go_wp2_with fail
  go_ret
  exact ⟨rfl, A'.at st, rs', ⟨⟨HNX.out.size, HNX.out.ab, HNX.out.nN, HNX.out.nV, HNX.out.nT⟩, fun e => (by cases e), d, fun e => (by cases e)⟩, HX3.out.fst⟩

set_option maxHeartbeats 4000000 in
set_option maxRecDepth 100000 in
theorem makes_3 (h : Has o w0 w (.two b rb A A rs)) (hT : TabAt w0) (ho : 0 ∉ o) {m : Nat} (hm : Small A m) (hm9 : m ≤ 100000) (k a bb c v q : Int) (t : ByteArray) (hv0 : 0 ≤ v) (hv1 : v < 18446744073709551616) (hq0 : 0 ≤ q) (hq1 : q < 18446744073709551616) (hk : k = 3) :
    Calls Tryd.prog 29 #[P0 b, P0 rb, .agg #[.int .i64 k, .int .i64 a, .int .i64 bb, .int .i64 c, .int .u64 v, .int .u64 q, .string t]] w fun e w' => e = .returned (.bool true) ∧ ∃ A' rs', Did own1 k A A' rs rs' ∧ Has o w0 w' (.two b rb A' A' rs') := by
  have hX := box_made k a bb c v q t h
  have hV9 : A.nV ≤ 1000000000 := by have := hm.nV; omega
  have hN9 : A.nN ≤ 1000000000 := by have := hm.nN; omega
  have hT9 : A.nT ≤ 1000000000 := by have := hm.nT; omega
  obtain ⟨o1, h1, p1, _, b1⟩ := hX.left
  have hT1 : TabAt (w.alloc (.cells #[.int .i64 k, .int .i64 a, .int .i64 bb, .int .i64 c, .int .u64 v, .int .u64 q, .string t] 62)) := hT.kept hX.keeps ho
  have ho1 := tab_out hT ho p1
  obtain ⟨x0, x1, D⟩ := duo_txn h1 hT1 ho1 hT9
  obtain ⟨A', d, rs', nx, ht, C1, C2⟩ := D.beside b1
  have HC1 := Lib.hid C1
  have HC2 := Lib.hid C2
  have HNX := Lib.hid nx
  have HTT := Lib.hid ht
  obtain ⟨k0, k1, k2, k3, k4, k5, k6⟩ := box_cells hX
  have HK := Lib.hid hk
  subst hk
  clear h hX h1 b1 p1 D C1 C2 nx ht hT ho hT1 ho1 hm
  go_enter Tryd.func29, Tryd.ntmps29
  go_wp2_with fail
  refine HC1.out.mono ?_
  rintro e w2 ⟨rfl, st, hs, hX⟩
  have HX := Lib.hid hX
  have HS := Lib.hid hs
  obtain ⟨j0, j1, j2, j3, j4, j5, j6⟩ := box_cells hX
  clear hX hs HC1
  go_wp2_with fail
  refine (HC2.out _ _ HX.out).mono ?_
  rintro e w3 ⟨rfl, hX⟩
  have HX3 := Lib.hid hX
  clear hX HC2 HX
  go_wp2_with fail
  go_ret
  exact ⟨rfl, A'.at st, rs', ⟨⟨HNX.out.size, HNX.out.ab, HNX.out.nN, HNX.out.nV, HNX.out.nT⟩, fun e => (by cases e), d, fun e => (by cases e)⟩, HX3.out.fst⟩

set_option maxHeartbeats 4000000 in
set_option maxRecDepth 100000 in
theorem makes_4 (h : Has o w0 w (.two b rb A A rs)) (hT : TabAt w0) (ho : 0 ∉ o) {m : Nat} (hm : Small A m) (hm9 : m ≤ 100000) (k a bb c v q : Int) (t : ByteArray) (hv0 : 0 ≤ v) (hv1 : v < 18446744073709551616) (hq0 : 0 ≤ q) (hq1 : q < 18446744073709551616) (hk : k = 4) :
    Calls Tryd.prog 29 #[P0 b, P0 rb, .agg #[.int .i64 k, .int .i64 a, .int .i64 bb, .int .i64 c, .int .u64 v, .int .u64 q, .string t]] w fun e w' => e = .returned (.bool true) ∧ ∃ A' rs', Did own1 k A A' rs rs' ∧ Has o w0 w' (.two b rb A' A' rs') := by
  have hX := box_made k a bb c v q t h
  have hV9 : A.nV ≤ 1000000000 := by have := hm.nV; omega
  have hN9 : A.nN ≤ 1000000000 := by have := hm.nN; omega
  have hT9 : A.nT ≤ 1000000000 := by have := hm.nT; omega
  obtain ⟨o1, h1, p1, _, b1⟩ := hX.left
  have hT1 : TabAt (w.alloc (.cells #[.int .i64 k, .int .i64 a, .int .i64 bb, .int .i64 c, .int .u64 v, .int .u64 q, .string t] 62)) := hT.kept hX.keeps ho
  have ho1 := tab_out hT ho p1
  obtain ⟨x0, x1, D⟩ := duo_head h1 a hV9
  obtain ⟨A', d, rs', nx, ht, C1, C2⟩ := D.beside b1
  have HC1 := Lib.hid C1
  have HC2 := Lib.hid C2
  have HNX := Lib.hid nx
  have HTT := Lib.hid ht
  obtain ⟨k0, k1, k2, k3, k4, k5, k6⟩ := box_cells hX
  have HK := Lib.hid hk
  subst hk
  clear h hX h1 b1 p1 D C1 C2 nx ht hT ho hT1 ho1 hm
  go_enter Tryd.func29, Tryd.ntmps29
  go_wp2_with fail
  refine HC1.out.mono ?_
  rintro e w2 ⟨rfl, st, hs, hX⟩
  have HX := Lib.hid hX
  have HS := Lib.hid hs
  obtain ⟨j0, j1, j2, j3, j4, j5, j6⟩ := box_cells hX
  clear hX hs HC1
  go_wp2_with fail
  refine (HC2.out _ _ HX.out).mono ?_
  rintro e w3 ⟨rfl, hX⟩
  have HX3 := Lib.hid hX
  clear hX HC2 HX
  go_wp2_with fail
  go_ret
  exact ⟨rfl, A'.at st, rs', ⟨⟨HNX.out.size, HNX.out.ab, HNX.out.nN, HNX.out.nV, HNX.out.nT⟩, fun e => (by cases e), d, fun e => ⟨HS.out (by simp), HTT.out (by simp)⟩⟩, HX3.out.fst⟩

set_option maxHeartbeats 4000000 in
set_option maxRecDepth 100000 in
theorem makes_16 (h : Has o w0 w (.two b rb A A rs)) (hT : TabAt w0) (ho : 0 ∉ o) {m : Nat} (hm : Small A m) (hm9 : m ≤ 100000) (k a bb c v q : Int) (t : ByteArray) (hv0 : 0 ≤ v) (hv1 : v < 18446744073709551616) (hq0 : 0 ≤ q) (hq1 : q < 18446744073709551616) (hk : k = 16) :
    Calls Tryd.prog 29 #[P0 b, P0 rb, .agg #[.int .i64 k, .int .i64 a, .int .i64 bb, .int .i64 c, .int .u64 v, .int .u64 q, .string t]] w fun e w' => e = .returned (.bool true) ∧ ∃ A' rs', Did own1 k A A' rs rs' ∧ Has o w0 w' (.two b rb A' A' rs') := by
  have hX := box_made k a bb c v q t h
  have hV9 : A.nV ≤ 1000000000 := by have := hm.nV; omega
  have hN9 : A.nN ≤ 1000000000 := by have := hm.nN; omega
  have hT9 : A.nT ≤ 1000000000 := by have := hm.nT; omega
  obtain ⟨o1, h1, p1, _, b1⟩ := hX.left
  have hT1 : TabAt (w.alloc (.cells #[.int .i64 k, .int .i64 a, .int .i64 bb, .int .i64 c, .int .u64 v, .int .u64 q, .string t] 62)) := hT.kept hX.keeps ho
  have ho1 := tab_out hT ho p1
  obtain ⟨x0, x1, D⟩ := duo_cut h1 hV9 a
  obtain ⟨A', d, rs', nx, ht, C1, C2⟩ := D.beside b1
  have HC1 := Lib.hid C1
  have HC2 := Lib.hid C2
  have HNX := Lib.hid nx
  have HTT := Lib.hid ht
  obtain ⟨k0, k1, k2, k3, k4, k5, k6⟩ := box_cells hX
  have HK := Lib.hid hk
  subst hk
  clear h hX h1 b1 p1 D C1 C2 nx ht hT ho hT1 ho1 hm
  go_enter Tryd.func29, Tryd.ntmps29
  go_wp2_with fail
  refine HC1.out.mono ?_
  rintro e w2 ⟨rfl, st, hs, hX⟩
  have HX := Lib.hid hX
  have HS := Lib.hid hs
  obtain ⟨j0, j1, j2, j3, j4, j5, j6⟩ := box_cells hX
  clear hX hs HC1
  go_wp2_with fail
  refine (HC2.out _ _ HX.out).mono ?_
  rintro e w3 ⟨rfl, hX⟩
  have HX3 := Lib.hid hX
  clear hX HC2 HX
  go_wp2_with fail
  go_ret
  exact ⟨rfl, A'.at st, rs', ⟨⟨HNX.out.size, HNX.out.ab, HNX.out.nN, HNX.out.nV, HNX.out.nT⟩, fun e => (by cases e), d, fun e => (by cases e)⟩, HX3.out.fst⟩

set_option maxHeartbeats 4000000 in
set_option maxRecDepth 100000 in
theorem makes_none (h : Has o w0 w (.two b rb A A rs)) (hT : TabAt w0) (ho : 0 ∉ o) {m : Nat} (hm : Small A m) (hm9 : m ≤ 100000) (k a bb c v q : Int) (t : ByteArray) (hv0 : 0 ≤ v) (hv1 : v < 18446744073709551616) (hq0 : 0 ≤ q) (hq1 : q < 18446744073709551616) (hk : own1 k = false) :
    Calls Tryd.prog 29 #[P0 b, P0 rb, .agg #[.int .i64 k, .int .i64 a, .int .i64 bb, .int .i64 c, .int .u64 v, .int .u64 q, .string t]] w fun e w' => e = .returned (.bool true) ∧ ∃ A' rs', Did own1 k A A' rs rs' ∧ Has o w0 w' (.two b rb A' A' rs') := by
  have hX := box_made k a bb c v q t h
  have hV9 : A.nV ≤ 1000000000 := by have := hm.nV; omega
  have hN9 : A.nN ≤ 1000000000 := by have := hm.nN; omega
  have hT9 : A.nT ≤ 1000000000 := by have := hm.nT; omega
  have hks : k ≠ 1 ∧ k ≠ 2 ∧ k ≠ 3 ∧ k ≠ 4 ∧ k ≠ 16 := by unfold own1 at hk; simp at hk; omega
  obtain ⟨n1, n2, n3, n4, n16⟩ := hks
  have f1 : decide (k = 1) = false := by simpa using n1
  have g1 : (k == 1) = false := by simpa using n1
  have f2 : decide (k = 2) = false := by simpa using n2
  have g2 : (k == 2) = false := by simpa using n2
  have f3 : decide (k = 3) = false := by simpa using n3
  have g3 : (k == 3) = false := by simpa using n3
  have f4 : decide (k = 4) = false := by simpa using n4
  have g4 : (k == 4) = false := by simpa using n4
  have f16 : decide (k = 16) = false := by simpa using n16
  have g16 : (k == 16) = false := by simpa using n16
  have HX := Lib.hid hX
  obtain ⟨k0, k1, k2, k3, k4, k5, k6⟩ := box_cells hX
  clear h hX hT ho hm hk
  go_enter Tryd.func29, Tryd.ntmps29
  go_wp2_with fail
  go_ret
  exact ⟨rfl, A, rs, Did.none, HX.out.fst⟩

theorem makes_walk (h : Has o w0 w (.two b rb A A rs)) (hT : TabAt w0) (ho : 0 ∉ o) {m : Nat} (hm : Small A m) (hm9 : m ≤ 100000) (k a bb c v q : Int) (t : ByteArray) (hv0 : 0 ≤ v) (hv1 : v < 18446744073709551616) (hq0 : 0 ≤ q) (hq1 : q < 18446744073709551616) :
    Calls Tryd.prog 29 #[P0 b, P0 rb, .agg #[.int .i64 k, .int .i64 a, .int .i64 bb, .int .i64 c, .int .u64 v, .int .u64 q, .string t]] w fun e w' => e = .returned (.bool true) ∧ ∃ A' rs', Did own1 k A A' rs rs' ∧ Has o w0 w' (.two b rb A' A' rs') := by
  by_cases hk : own1 k = false
  · exact makes_none h hT ho hm hm9 k a bb c v q t hv0 hv1 hq0 hq1 hk
  · have hks : k = 1 ∨ k = 2 ∨ k = 3 ∨ k = 4 ∨ k = 16 := by unfold own1 at hk; simp at hk; omega
    rcases hks with hk | hk | hk | hk | hk
    · exact makes_1 h hT ho hm hm9 k a bb c v q t hv0 hv1 hq0 hq1 hk
    · exact makes_2 h hT ho hm hm9 k a bb c v q t hv0 hv1 hq0 hq1 hk
    · exact makes_3 h hT ho hm hm9 k a bb c v q t hv0 hv1 hq0 hq1 hk
    · exact makes_4 h hT ho hm hm9 k a bb c v q t hv0 hv1 hq0 hq1 hk
    · exact makes_16 h hT ho hm hm9 k a bb c v q t hv0 hv1 hq0 hq1 hk

set_option maxHeartbeats 4000000 in
set_option maxRecDepth 100000 in
theorem swaps_5 (h : Has o w0 w (.two b rb A A rs)) (hT : TabAt w0) (ho : 0 ∉ o) {m : Nat} (hm : Small A m) (hm9 : m ≤ 100000) (k a bb c v q : Int) (t : ByteArray) (hv0 : 0 ≤ v) (hv1 : v < 18446744073709551616) (hq0 : 0 ≤ q) (hq1 : q < 18446744073709551616) (hk : k = 5) :
    Calls Tryd.prog 30 #[P0 b, P0 rb, .agg #[.int .i64 k, .int .i64 a, .int .i64 bb, .int .i64 c, .int .u64 v, .int .u64 q, .string t]] w fun e w' => e = .returned (.bool true) ∧ ∃ A' rs', Did own2 k A A' rs rs' ∧ Has o w0 w' (.two b rb A' A' rs') := by
  have hX := box_made k a bb c v q t h
  have hV9 : A.nV ≤ 1000000000 := by have := hm.nV; omega
  have hN9 : A.nN ≤ 1000000000 := by have := hm.nN; omega
  have hT9 : A.nT ≤ 1000000000 := by have := hm.nT; omega
  obtain ⟨o1, h1, p1, _, b1⟩ := hX.left
  have hT1 : TabAt (w.alloc (.cells #[.int .i64 k, .int .i64 a, .int .i64 bb, .int .i64 c, .int .u64 v, .int .u64 q, .string t] 62)) := hT.kept hX.keeps ho
  have ho1 := tab_out hT ho p1
  obtain ⟨x0, x1, D⟩ := duo_push h1 hV9 a bb c
  obtain ⟨A', d, rs', nx, ht, C1, C2⟩ := D.beside b1
  have HC1 := Lib.hid C1
  have HC2 := Lib.hid C2
  have HNX := Lib.hid nx
  have HTT := Lib.hid ht
  obtain ⟨k0, k1, k2, k3, k4, k5, k6⟩ := box_cells hX
  have HK := Lib.hid hk
  subst hk
  clear h hX h1 b1 p1 D C1 C2 nx ht hT ho hT1 ho1 hm
  go_enter Tryd.func30, Tryd.ntmps30
  go_wp2_with fail
  refine HC1.out.mono ?_
  rintro e w2 ⟨rfl, st, hs, hX⟩
  have HX := Lib.hid hX
  have HS := Lib.hid hs
  obtain ⟨j0, j1, j2, j3, j4, j5, j6⟩ := box_cells hX
  clear hX hs HC1
  go_wp2_with fail
  refine (HC2.out _ _ HX.out).mono ?_
  rintro e w3 ⟨rfl, hX⟩
  have HX3 := Lib.hid hX
  clear hX HC2 HX
  go_wp2_with fail
  go_ret
  exact ⟨rfl, A'.at st, rs', ⟨⟨HNX.out.size, HNX.out.ab, HNX.out.nN, HNX.out.nV, HNX.out.nT⟩, fun e => (by cases e), d, fun e => ⟨HS.out (by simp), HTT.out (by simp)⟩⟩, HX3.out.fst⟩

set_option maxHeartbeats 4000000 in
set_option maxRecDepth 100000 in
theorem swaps_10 (h : Has o w0 w (.two b rb A A rs)) (hT : TabAt w0) (ho : 0 ∉ o) {m : Nat} (hm : Small A m) (hm9 : m ≤ 100000) (k a bb c v q : Int) (t : ByteArray) (hv0 : 0 ≤ v) (hv1 : v < 18446744073709551616) (hq0 : 0 ≤ q) (hq1 : q < 18446744073709551616) (hk : k = 10) :
    Calls Tryd.prog 30 #[P0 b, P0 rb, .agg #[.int .i64 k, .int .i64 a, .int .i64 bb, .int .i64 c, .int .u64 v, .int .u64 q, .string t]] w fun e w' => e = .returned (.bool true) ∧ ∃ A' rs', Did own2 k A A' rs rs' ∧ Has o w0 w' (.two b rb A' A' rs') := by
  have hX := box_made k a bb c v q t h
  have hV9 : A.nV ≤ 1000000000 := by have := hm.nV; omega
  have hN9 : A.nN ≤ 1000000000 := by have := hm.nN; omega
  have hT9 : A.nT ≤ 1000000000 := by have := hm.nT; omega
  obtain ⟨o1, h1, p1, _, b1⟩ := hX.left
  have hT1 : TabAt (w.alloc (.cells #[.int .i64 k, .int .i64 a, .int .i64 bb, .int .i64 c, .int .u64 v, .int .u64 q, .string t] 62)) := hT.kept hX.keeps ho
  have ho1 := tab_out hT ho p1
  obtain ⟨x0, x1, D⟩ := duo_takeEnd h1 a v q hq0 hq1
  obtain ⟨A', d, rs', nx, ht, C1, C2⟩ := D.beside b1
  have HC1 := Lib.hid C1
  have HC2 := Lib.hid C2
  have HNX := Lib.hid nx
  have HTT := Lib.hid ht
  obtain ⟨k0, k1, k2, k3, k4, k5, k6⟩ := box_cells hX
  have HK := Lib.hid hk
  subst hk
  clear h hX h1 b1 p1 D C1 C2 nx ht hT ho hT1 ho1 hm
  go_enter Tryd.func30, Tryd.ntmps30
  go_wp2_with fail
  refine HC1.out.mono ?_
  rintro e w2 ⟨rfl, st, hs, hX⟩
  have HX := Lib.hid hX
  have HS := Lib.hid hs
  obtain ⟨j0, j1, j2, j3, j4, j5, j6⟩ := box_cells hX
  clear hX hs HC1
  go_wp2_with fail
  refine (HC2.out _ _ HX.out).mono ?_
  rintro e w3 ⟨rfl, hX⟩
  have HX3 := Lib.hid hX
  clear hX HC2 HX
  go_wp2_with fail
  go_ret
  exact ⟨rfl, A'.at st, rs', ⟨⟨HNX.out.size, HNX.out.ab, HNX.out.nN, HNX.out.nV, HNX.out.nT⟩, fun e => (by cases e), d, fun e => ⟨HS.out (by simp), HTT.out (by simp)⟩⟩, HX3.out.fst⟩

set_option maxHeartbeats 4000000 in
set_option maxRecDepth 100000 in
theorem swaps_15 (h : Has o w0 w (.two b rb A A rs)) (hT : TabAt w0) (ho : 0 ∉ o) {m : Nat} (hm : Small A m) (hm9 : m ≤ 100000) (k a bb c v q : Int) (t : ByteArray) (hv0 : 0 ≤ v) (hv1 : v < 18446744073709551616) (hq0 : 0 ≤ q) (hq1 : q < 18446744073709551616) (hk : k = 15) :
    Calls Tryd.prog 30 #[P0 b, P0 rb, .agg #[.int .i64 k, .int .i64 a, .int .i64 bb, .int .i64 c, .int .u64 v, .int .u64 q, .string t]] w fun e w' => e = .returned (.bool true) ∧ ∃ A' rs', Did own2 k A A' rs rs' ∧ Has o w0 w' (.two b rb A' A' rs') := by
  have hX := box_made k a bb c v q t h
  have hV9 : A.nV ≤ 1000000000 := by have := hm.nV; omega
  have hN9 : A.nN ≤ 1000000000 := by have := hm.nN; omega
  have hT9 : A.nT ≤ 1000000000 := by have := hm.nT; omega
  obtain ⟨o1, h1, p1, _, b1⟩ := hX.left
  have hT1 : TabAt (w.alloc (.cells #[.int .i64 k, .int .i64 a, .int .i64 bb, .int .i64 c, .int .u64 v, .int .u64 q, .string t] 62)) := hT.kept hX.keeps ho
  have ho1 := tab_out hT ho p1
  obtain ⟨x0, x1, D⟩ := duo_takeLock h1 a v q hq0 hq1
  obtain ⟨A', d, rs', nx, ht, C1, C2⟩ := D.beside b1
  have HC1 := Lib.hid C1
  have HC2 := Lib.hid C2
  have HNX := Lib.hid nx
  have HTT := Lib.hid ht
  obtain ⟨k0, k1, k2, k3, k4, k5, k6⟩ := box_cells hX
  have HK := Lib.hid hk
  subst hk
  clear h hX h1 b1 p1 D C1 C2 nx ht hT ho hT1 ho1 hm
  go_enter Tryd.func30, Tryd.ntmps30
  go_wp2_with fail
  refine HC1.out.mono ?_
  rintro e w2 ⟨rfl, st, hs, hX⟩
  have HX := Lib.hid hX
  have HS := Lib.hid hs
  obtain ⟨j0, j1, j2, j3, j4, j5, j6⟩ := box_cells hX
  clear hX hs HC1
  go_wp2_with fail
  refine (HC2.out _ _ HX.out).mono ?_
  rintro e w3 ⟨rfl, hX⟩
  have HX3 := Lib.hid hX
  clear hX HC2 HX
  go_wp2_with fail
  go_ret
  exact ⟨rfl, A'.at st, rs', ⟨⟨HNX.out.size, HNX.out.ab, HNX.out.nN, HNX.out.nV, HNX.out.nT⟩, fun e => (by cases e), d, fun e => ⟨HS.out (by simp), HTT.out (by simp)⟩⟩, HX3.out.fst⟩

set_option maxHeartbeats 4000000 in
set_option maxRecDepth 100000 in
theorem swaps_none (h : Has o w0 w (.two b rb A A rs)) (hT : TabAt w0) (ho : 0 ∉ o) {m : Nat} (hm : Small A m) (hm9 : m ≤ 100000) (k a bb c v q : Int) (t : ByteArray) (hv0 : 0 ≤ v) (hv1 : v < 18446744073709551616) (hq0 : 0 ≤ q) (hq1 : q < 18446744073709551616) (hk : own2 k = false) :
    Calls Tryd.prog 30 #[P0 b, P0 rb, .agg #[.int .i64 k, .int .i64 a, .int .i64 bb, .int .i64 c, .int .u64 v, .int .u64 q, .string t]] w fun e w' => e = .returned (.bool true) ∧ ∃ A' rs', Did own2 k A A' rs rs' ∧ Has o w0 w' (.two b rb A' A' rs') := by
  have hX := box_made k a bb c v q t h
  have hV9 : A.nV ≤ 1000000000 := by have := hm.nV; omega
  have hN9 : A.nN ≤ 1000000000 := by have := hm.nN; omega
  have hT9 : A.nT ≤ 1000000000 := by have := hm.nT; omega
  have hks : k ≠ 5 ∧ k ≠ 10 ∧ k ≠ 15 := by unfold own2 at hk; simp at hk; omega
  obtain ⟨n5, n10, n15⟩ := hks
  have f5 : decide (k = 5) = false := by simpa using n5
  have g5 : (k == 5) = false := by simpa using n5
  have f10 : decide (k = 10) = false := by simpa using n10
  have g10 : (k == 10) = false := by simpa using n10
  have f15 : decide (k = 15) = false := by simpa using n15
  have g15 : (k == 15) = false := by simpa using n15
  have HX := Lib.hid hX
  obtain ⟨k0, k1, k2, k3, k4, k5, k6⟩ := box_cells hX
  clear h hX hT ho hm hk
  go_enter Tryd.func30, Tryd.ntmps30
  go_wp2_with fail
  go_ret
  exact ⟨rfl, A, rs, Did.none, HX.out.fst⟩

theorem swaps_walk (h : Has o w0 w (.two b rb A A rs)) (hT : TabAt w0) (ho : 0 ∉ o) {m : Nat} (hm : Small A m) (hm9 : m ≤ 100000) (k a bb c v q : Int) (t : ByteArray) (hv0 : 0 ≤ v) (hv1 : v < 18446744073709551616) (hq0 : 0 ≤ q) (hq1 : q < 18446744073709551616) :
    Calls Tryd.prog 30 #[P0 b, P0 rb, .agg #[.int .i64 k, .int .i64 a, .int .i64 bb, .int .i64 c, .int .u64 v, .int .u64 q, .string t]] w fun e w' => e = .returned (.bool true) ∧ ∃ A' rs', Did own2 k A A' rs rs' ∧ Has o w0 w' (.two b rb A' A' rs') := by
  by_cases hk : own2 k = false
  · exact swaps_none h hT ho hm hm9 k a bb c v q t hv0 hv1 hq0 hq1 hk
  · have hks : k = 5 ∨ k = 10 ∨ k = 15 := by unfold own2 at hk; simp at hk; omega
    rcases hks with hk | hk | hk
    · exact swaps_5 h hT ho hm hm9 k a bb c v q t hv0 hv1 hq0 hq1 hk
    · exact swaps_10 h hT ho hm hm9 k a bb c v q t hv0 hv1 hq0 hq1 hk
    · exact swaps_15 h hT ho hm hm9 k a bb c v q t hv0 hv1 hq0 hq1 hk

end Go.Proofs.YtlaffmdflleeeaaDoor
