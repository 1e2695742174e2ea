/- The walk of the statements' own 'loads' (printed by mksteps11.py). -/
import Derived.Test.YtlaffmdflleeeaaDoorSteps11
namespace Go.Proofs.YtlaffmdflleeeaaDoor
open Go Go.RowKit
set_option linter.unusedVariables false

variable {o : List Nat} {w0 w : World} {b rb : Nat} {A A' : ASt} {rs rs' : Int}

set_option maxHeartbeats 4000000 in
set_option maxRecDepth 100000 in
theorem loads_6 (h : Has o w0 w (.two b rb A A rs)) (hT : TabAt w0) (ho : 0 ∉ o) {m : Nat} (hm : Small A m) (hm9 : m ≤ 100000) (k a bb c v q : Int) (t : ByteArray) (hv0 : 0 ≤ v) (hv1 : v < 18446744073709551616) (hq0 : 0 ≤ q) (hq1 : q < 18446744073709551616) (hk : k = 6) :
    Calls Tryd.prog 31 #[P0 b, P0 rb, .agg #[.int .i64 k, .int .i64 a, .int .i64 bb, .int .i64 c, .int .u64 v, .int .u64 q, .string t]] w fun e w' => e = .returned (.bool true) ∧ ∃ A' rs', Did own3 k A A' rs rs' ∧ Has o w0 w' (.two b rb A' A' rs') := by
  have hX := box_made k a bb c v q t h
  have hV9 : A.nV ≤ 1000000000 := by have := hm.nV; omega
  have hN9 : A.nN ≤ 1000000000 := by have := hm.nN; omega
  have hT9 : A.nT ≤ 1000000000 := by have := hm.nT; omega
  obtain ⟨o1, h1, p1, _, b1⟩ := hX.left
  have hT1 : TabAt (w.alloc (.cells #[.int .i64 k, .int .i64 a, .int .i64 bb, .int .i64 c, .int .u64 v, .int .u64 q, .string t] 62)) := hT.kept hX.keeps ho
  have ho1 := tab_out hT ho p1
  obtain hm3 := mod3 c
  obtain ⟨x0, x1, D⟩ := duo_words h1 hV9 a ((wrap64 (c.tmod 3 + 3)).tmod 3) hm3
  obtain ⟨A', d, rs', nx, ht, C1, C2⟩ := D.beside b1
  have HC1 := Lib.hid C1
  have HC2 := Lib.hid C2
  have HNX := Lib.hid nx
  have HTT := Lib.hid ht
  obtain ⟨k0, k1, k2, k3, k4, k5, k6⟩ := box_cells hX
  have HK := Lib.hid hk
  subst hk
  clear h hX h1 b1 p1 D C1 C2 nx ht hT ho hT1 ho1 hm
  go_enter Tryd.func31, Tryd.ntmps31
  go_wp2_with fail
  refine HC1.out.mono ?_
  rintro e w2 ⟨rfl, st, hs, hX⟩
  have HX := Lib.hid hX
  have HS := Lib.hid hs
  obtain ⟨j0, j1, j2, j3, j4, j5, j6⟩ := box_cells hX
  clear hX hs HC1
  go_wp2_with fail
  refine (HC2.out _ _ HX.out).mono ?_
  rintro e w3 ⟨rfl, hX⟩
  have HX3 := Lib.hid hX
  clear hX HC2 HX
  go_wp2_with fail
  go_ret
  exact ⟨rfl, A'.at st, rs', ⟨⟨HNX.out.size, HNX.out.ab, HNX.out.nN, HNX.out.nV, HNX.out.nT⟩, fun e => (by cases e), d, fun e => ⟨HS.out (by simp), HTT.out (by simp)⟩⟩, HX3.out.fst⟩

set_option maxHeartbeats 4000000 in
set_option maxRecDepth 100000 in
theorem loads_11 (h : Has o w0 w (.two b rb A A rs)) (hT : TabAt w0) (ho : 0 ∉ o) {m : Nat} (hm : Small A m) (hm9 : m ≤ 100000) (k a bb c v q : Int) (t : ByteArray) (hv0 : 0 ≤ v) (hv1 : v < 18446744073709551616) (hq0 : 0 ≤ q) (hq1 : q < 18446744073709551616) (hk : k = 11) :
    Calls Tryd.prog 31 #[P0 b, P0 rb, .agg #[.int .i64 k, .int .i64 a, .int .i64 bb, .int .i64 c, .int .u64 v, .int .u64 q, .string t]] w fun e w' => e = .returned (.bool true) ∧ ∃ A' rs', Did own3 k A A' rs rs' ∧ Has o w0 w' (.two b rb A' A' rs') := by
  have hX := box_made k a bb c v q t h
  have hV9 : A.nV ≤ 1000000000 := by have := hm.nV; omega
  have hN9 : A.nN ≤ 1000000000 := by have := hm.nN; omega
  have hT9 : A.nT ≤ 1000000000 := by have := hm.nT; omega
  obtain ⟨o1, h1, p1, _, b1⟩ := hX.left
  have hT1 : TabAt (w.alloc (.cells #[.int .i64 k, .int .i64 a, .int .i64 bb, .int .i64 c, .int .u64 v, .int .u64 q, .string t] 62)) := hT.kept hX.keeps ho
  have ho1 := tab_out hT ho p1
  obtain ⟨x0, x1, D⟩ := duo_state h1 a
  obtain ⟨A', d, rs', nx, ht, C1, C2⟩ := D.beside b1
  have HC1 := Lib.hid C1
  have HC2 := Lib.hid C2
  have HNX := Lib.hid nx
  have HTT := Lib.hid ht
  obtain ⟨k0, k1, k2, k3, k4, k5, k6⟩ := box_cells hX
  have HK := Lib.hid hk
  subst hk
  clear h hX h1 b1 p1 D C1 C2 nx ht hT ho hT1 ho1 hm
  go_enter Tryd.func31, Tryd.ntmps31
  go_wp2_with fail
  refine HC1.out.mono ?_
  rintro e w2 ⟨rfl, st, hs, hX⟩
  have HX := Lib.hid hX
  have HS := Lib.hid hs
  obtain ⟨j0, j1, j2, j3, j4, j5, j6⟩ := box_cells hX
  clear hX hs HC1
  go_wp2_with fail
  refine (HC2.out _ _ HX.out).mono ?_
  rintro e w3 ⟨rfl, hX⟩
  have HX3 := Lib.hid hX
  clear hX HC2 HX
  go_wp2_with fail
  go_ret
  exact ⟨rfl, A'.at st, rs', ⟨⟨HNX.out.size, HNX.out.ab, HNX.out.nN, HNX.out.nV, HNX.out.nT⟩, fun e => (by cases e), d, fun e => ⟨HS.out (by simp), HTT.out (by simp)⟩⟩, HX3.out.fst⟩

set_option maxHeartbeats 4000000 in
set_option maxRecDepth 100000 in
theorem loads_14 (h : Has o w0 w (.two b rb A A rs)) (hT : TabAt w0) (ho : 0 ∉ o) {m : Nat} (hm : Small A m) (hm9 : m ≤ 100000) (k a bb c v q : Int) (t : ByteArray) (hv0 : 0 ≤ v) (hv1 : v < 18446744073709551616) (hq0 : 0 ≤ q) (hq1 : q < 18446744073709551616) (hk : k = 14) :
    Calls Tryd.prog 31 #[P0 b, P0 rb, .agg #[.int .i64 k, .int .i64 a, .int .i64 bb, .int .i64 c, .int .u64 v, .int .u64 q, .string t]] w fun e w' => e = .returned (.bool true) ∧ ∃ A' rs', Did own3 k A A' rs rs' ∧ Has o w0 w' (.two b rb A' A' rs') := by
  have hX := box_made k a bb c v q t h
  have hV9 : A.nV ≤ 1000000000 := by have := hm.nV; omega
  have hN9 : A.nN ≤ 1000000000 := by have := hm.nN; omega
  have hT9 : A.nT ≤ 1000000000 := by have := hm.nT; omega
  obtain ⟨o1, h1, p1, _, b1⟩ := hX.left
  have hT1 : TabAt (w.alloc (.cells #[.int .i64 k, .int .i64 a, .int .i64 bb, .int .i64 c, .int .u64 v, .int .u64 q, .string t] 62)) := hT.kept hX.keeps ho
  have ho1 := tab_out hT ho p1
  obtain ⟨x0, x1, D⟩ := duo_lock h1 a
  obtain ⟨A', d, rs', nx, ht, C1, C2⟩ := D.beside b1
  have HC1 := Lib.hid C1
  have HC2 := Lib.hid C2
  have HNX := Lib.hid nx
  have HTT := Lib.hid ht
  obtain ⟨k0, k1, k2, k3, k4, k5, k6⟩ := box_cells hX
  have HK := Lib.hid hk
  subst hk
  clear h hX h1 b1 p1 D C1 C2 nx ht hT ho hT1 ho1 hm
  go_enter Tryd.func31, Tryd.ntmps31
  go_wp2_with fail
  refine HC1.out.mono ?_
  rintro e w2 ⟨rfl, st, hs, hX⟩
  have HX := Lib.hid hX
  have HS := Lib.hid hs
  obtain ⟨j0, j1, j2, j3, j4, j5, j6⟩ := box_cells hX
  clear hX hs HC1
  go_wp2_with fail
  refine (HC2.out _ _ HX.out).mono ?_
  rintro e w3 ⟨rfl, hX⟩
  have HX3 := Lib.hid hX
  clear hX HC2 HX
  go_wp2_with fail
  go_ret
  exact ⟨rfl, A'.at st, rs', ⟨⟨HNX.out.size, HNX.out.ab, HNX.out.nN, HNX.out.nV, HNX.out.nT⟩, fun e => (by cases e), d, fun e => ⟨HS.out (by simp), HTT.out (by simp)⟩⟩, HX3.out.fst⟩

set_option maxHeartbeats 4000000 in
set_option maxRecDepth 100000 in
theorem loads_8 (h : Has o w0 w (.two b rb A A rs)) (hT : TabAt w0) (ho : 0 ∉ o) {m : Nat} (hm : Small A m) (hm9 : m ≤ 100000) (k a bb c v q : Int) (t : ByteArray) (hv0 : 0 ≤ v) (hv1 : v < 18446744073709551616) (hq0 : 0 ≤ q) (hq1 : q < 18446744073709551616) (hk : k = 8) :
    Calls Tryd.prog 31 #[P0 b, P0 rb, .agg #[.int .i64 k, .int .i64 a, .int .i64 bb, .int .i64 c, .int .u64 v, .int .u64 q, .string t]] w fun e w' => e = .returned (.bool true) ∧ ∃ A' rs', Did own3 k A A' rs rs' ∧ Has o w0 w' (.two b rb A' A' rs') := by
  have hX := box_made k a bb c v q t h
  have hV9 : A.nV ≤ 1000000000 := by have := hm.nV; omega
  have hN9 : A.nN ≤ 1000000000 := by have := hm.nN; omega
  have hT9 : A.nT ≤ 1000000000 := by have := hm.nT; omega
  obtain ⟨o1, h1, p1, _, b1⟩ := hX.left
  have hT1 : TabAt (w.alloc (.cells #[.int .i64 k, .int .i64 a, .int .i64 bb, .int .i64 c, .int .u64 v, .int .u64 q, .string t] 62)) := hT.kept hX.keeps ho
  have ho1 := tab_out hT ho p1
  obtain ⟨x0, D⟩ := duo_setBegin h1 a v hv0 hv1
  obtain ⟨A', d, rs', nx, ht, C1, C2⟩ := D.beside b1
  have HC1 := Lib.hid C1
  have HC2 := Lib.hid C2
  have HNX := Lib.hid nx
  have HTT := Lib.hid ht
  obtain ⟨k0, k1, k2, k3, k4, k5, k6⟩ := box_cells hX
  have HK := Lib.hid hk
  subst hk
  clear h hX h1 b1 p1 D C1 C2 nx ht hT ho hT1 ho1 hm
  go_enter Tryd.func31, Tryd.ntmps31
  go_wp2_with fail
  refine HC1.out.mono ?_
  rintro e w2 ⟨rfl, st, hs, hX⟩
  have HX := Lib.hid hX
  have HS := Lib.hid hs
  obtain ⟨j0, j1, j2, j3, j4, j5, j6⟩ := box_cells hX
  clear hX hs HC1
  go_wp2_with fail
  refine (HC2.out _ _ HX.out).mono ?_
  rintro e w3 ⟨rfl, hX⟩
  have HX3 := Lib.hid hX
  clear hX HC2 HX
  go_wp2_with fail
  go_ret
  exact ⟨rfl, A'.at st, rs', ⟨⟨HNX.out.size, HNX.out.ab, HNX.out.nN, HNX.out.nV, HNX.out.nT⟩, fun e => (by cases e), d, fun e => ⟨HS.out (by simp), HTT.out (by simp)⟩⟩, HX3.out.fst⟩

set_option maxHeartbeats 4000000 in
set_option maxRecDepth 100000 in
theorem loads_9 (h : Has o w0 w (.two b rb A A rs)) (hT : TabAt w0) (ho : 0 ∉ o) {m : Nat} (hm : Small A m) (hm9 : m ≤ 100000) (k a bb c v q : Int) (t : ByteArray) (hv0 : 0 ≤ v) (hv1 : v < 18446744073709551616) (hq0 : 0 ≤ q) (hq1 : q < 18446744073709551616) (hk : k = 9) :
    Calls Tryd.prog 31 #[P0 b, P0 rb, .agg #[.int .i64 k, .int .i64 a, .int .i64 bb, .int .i64 c, .int .u64 v, .int .u64 q, .string t]] w fun e w' => e = .returned (.bool true) ∧ ∃ A' rs', Did own3 k A A' rs rs' ∧ Has o w0 w' (.two b rb A' A' rs') := by
  have hX := box_made k a bb c v q t h
  have hV9 : A.nV ≤ 1000000000 := by have := hm.nV; omega
  have hN9 : A.nN ≤ 1000000000 := by have := hm.nN; omega
  have hT9 : A.nT ≤ 1000000000 := by have := hm.nT; omega
  obtain ⟨o1, h1, p1, _, b1⟩ := hX.left
  have hT1 : TabAt (w.alloc (.cells #[.int .i64 k, .int .i64 a, .int .i64 bb, .int .i64 c, .int .u64 v, .int .u64 q, .string t] 62)) := hT.kept hX.keeps ho
  have ho1 := tab_out hT ho p1
  obtain ⟨x0, D⟩ := duo_setEnd h1 a v hv0 hv1
  obtain ⟨A', d, rs', nx, ht, C1, C2⟩ := D.beside b1
  have HC1 := Lib.hid C1
  have HC2 := Lib.hid C2
  have HNX := Lib.hid nx
  have HTT := Lib.hid ht
  obtain ⟨k0, k1, k2, k3, k4, k5, k6⟩ := box_cells hX
  have HK := Lib.hid hk
  subst hk
  clear h hX h1 b1 p1 D C1 C2 nx ht hT ho hT1 ho1 hm
  go_enter Tryd.func31, Tryd.ntmps31
  go_wp2_with fail
  refine HC1.out.mono ?_
  rintro e w2 ⟨rfl, st, hs, hX⟩
  have HX := Lib.hid hX
  have HS := Lib.hid hs
  obtain ⟨j0, j1, j2, j3, j4, j5, j6⟩ := box_cells hX
  clear hX hs HC1
  go_wp2_with fail
  refine (HC2.out _ _ HX.out).mono ?_
  rintro e w3 ⟨rfl, hX⟩
  have HX3 := Lib.hid hX
  clear hX HC2 HX
  go_wp2_with fail
  go_ret
  exact ⟨rfl, A'.at st, rs', ⟨⟨HNX.out.size, HNX.out.ab, HNX.out.nN, HNX.out.nV, HNX.out.nT⟩, fun e => (by cases e), d, fun e => ⟨HS.out (by simp), HTT.out (by simp)⟩⟩, HX3.out.fst⟩

set_option maxHeartbeats 4000000 in
set_option maxRecDepth 100000 in
theorem loads_12 (h : Has o w0 w (.two b rb A A rs)) (hT : TabAt w0) (ho : 0 ∉ o) {m : Nat} (hm : Small A m) (hm9 : m ≤ 100000) (k a bb c v q : Int) (t : ByteArray) (hv0 : 0 ≤ v) (hv1 : v < 18446744073709551616) (hq0 : 0 ≤ q) (hq1 : q < 18446744073709551616) (hk : k = 12) :
    Calls Tryd.prog 31 #[P0 b, P0 rb, .agg #[.int .i64 k, .int .i64 a, .int .i64 bb, .int .i64 c, .int .u64 v, .int .u64 q, .string t]] w fun e w' => e = .returned (.bool true) ∧ ∃ A' rs', Did own3 k A A' rs rs' ∧ Has o w0 w' (.two b rb A' A' rs') := by
  have hX := box_made k a bb c v q t h
  have hV9 : A.nV ≤ 1000000000 := by have := hm.nV; omega
  have hN9 : A.nN ≤ 1000000000 := by have := hm.nN; omega
  have hT9 : A.nT ≤ 1000000000 := by have := hm.nT; omega
  obtain ⟨o1, h1, p1, _, b1⟩ := hX.left
  have hT1 : TabAt (w.alloc (.cells #[.int .i64 k, .int .i64 a, .int .i64 bb, .int .i64 c, .int .u64 v, .int .u64 q, .string t] 62)) := hT.kept hX.keeps ho
  have ho1 := tab_out hT ho p1
  obtain ⟨x0, D⟩ := duo_setState h1 a v hv0 hv1
  obtain ⟨A', d, rs', nx, ht, C1, C2⟩ := D.beside b1
  have HC1 := Lib.hid C1
  have HC2 := Lib.hid C2
  have HNX := Lib.hid nx
  have HTT := Lib.hid ht
  obtain ⟨k0, k1, k2, k3, k4, k5, k6⟩ := box_cells hX
  have HK := Lib.hid hk
  subst hk
  clear h hX h1 b1 p1 D C1 C2 nx ht hT ho hT1 ho1 hm
  go_enter Tryd.func31, Tryd.ntmps31
  go_wp2_with fail
  refine HC1.out.mono ?_
  rintro e w2 ⟨rfl, st, hs, hX⟩
  have HX := Lib.hid hX
  have HS := Lib.hid hs
  obtain ⟨j0, j1, j2, j3, j4, j5, j6⟩ := box_cells hX
  clear hX hs HC1
  go_wp2_with fail
  refine (HC2.out _ _ HX.out).mono ?_
  rintro e w3 ⟨rfl, hX⟩
  have HX3 := Lib.hid hX
  clear hX HC2 HX
  go_wp2_with fail
  go_ret
  exact ⟨rfl, A'.at st, rs', ⟨⟨HNX.out.size, HNX.out.ab, HNX.out.nN, HNX.out.nV, HNX.out.nT⟩, fun e => (by cases e), d, fun e => ⟨HS.out (by simp), HTT.out (by simp)⟩⟩, HX3.out.fst⟩

set_option maxHeartbeats 4000000 in
set_option maxRecDepth 100000 in
theorem loads_13 (h : Has o w0 w (.two b rb A A rs)) (hT : TabAt w0) (ho : 0 ∉ o) {m : Nat} (hm : Small A m) (hm9 : m ≤ 100000) (k a bb c v q : Int) (t : ByteArray) (hv0 : 0 ≤ v) (hv1 : v < 18446744073709551616) (hq0 : 0 ≤ q) (hq1 : q < 18446744073709551616) (hk : k = 13) :
    Calls Tryd.prog 31 #[P0 b, P0 rb, .agg #[.int .i64 k, .int .i64 a, .int .i64 bb, .int .i64 c, .int .u64 v, .int .u64 q, .string t]] w fun e w' => e = .returned (.bool true) ∧ ∃ A' rs', Did own3 k A A' rs rs' ∧ Has o w0 w' (.two b rb A' A' rs') := by
  have hX := box_made k a bb c v q t h
  have hV9 : A.nV ≤ 1000000000 := by have := hm.nV; omega
  have hN9 : A.nN ≤ 1000000000 := by have := hm.nN; omega
  have hT9 : A.nT ≤ 1000000000 := by have := hm.nT; omega
  obtain ⟨o1, h1, p1, _, b1⟩ := hX.left
  have hT1 : TabAt (w.alloc (.cells #[.int .i64 k, .int .i64 a, .int .i64 bb, .int .i64 c, .int .u64 v, .int .u64 q, .string t] 62)) := hT.kept hX.keeps ho
  have ho1 := tab_out hT ho p1
  obtain ⟨x0, D⟩ := duo_forget h1 a
  obtain ⟨A', d, rs', nx, ht, C1, C2⟩ := D.beside b1
  have HC1 := Lib.hid C1
  have HC2 := Lib.hid C2
  have HNX := Lib.hid nx
  have HTT := Lib.hid ht
  obtain ⟨k0, k1, k2, k3, k4, k5, k6⟩ := box_cells hX
  have HK := Lib.hid hk
  subst hk
  clear h hX h1 b1 p1 D C1 C2 nx ht hT ho hT1 ho1 hm
  go_enter Tryd.func31, Tryd.ntmps31
  go_wp2_with fail
  refine HC1.out.mono ?_
  rintro e w2 ⟨rfl, st, hs, hX⟩
  have HX := Lib.hid hX
  have HS := Lib.hid hs
  obtain ⟨j0, j1, j2, j3, j4, j5, j6⟩ := box_cells hX
  clear hX hs HC1
  go_wp2_with fail
  refine (HC2.out _ _ HX.out).mono ?_
  rintro e w3 ⟨rfl, hX⟩
  have HX3 := Lib.hid hX
  clear hX HC2 HX
  go_wp2_with fail
  go_ret
  exact ⟨rfl, A'.at st, rs', ⟨⟨HNX.out.size, HNX.out.ab, HNX.out.nN, HNX.out.nV, HNX.out.nT⟩, fun e => (by cases e), d, fun e => (by cases e)⟩, HX3.out.fst⟩

set_option maxHeartbeats 4000000 in
set_option maxRecDepth 100000 in
theorem loads_17 (h : Has o w0 w (.two b rb A A rs)) (hT : TabAt w0) (ho : 0 ∉ o) {m : Nat} (hm : Small A m) (hm9 : m ≤ 100000) (k a bb c v q : Int) (t : ByteArray) (hv0 : 0 ≤ v) (hv1 : v < 18446744073709551616) (hq0 : 0 ≤ q) (hq1 : q < 18446744073709551616) (hk : k = 17) :
    Calls Tryd.prog 31 #[P0 b, P0 rb, .agg #[.int .i64 k, .int .i64 a, .int .i64 bb, .int .i64 c, .int .u64 v, .int .u64 q, .string t]] w fun e w' => e = .returned (.bool true) ∧ ∃ A' rs', Did own3 k A A' rs rs' ∧ Has o w0 w' (.two b rb A' A' rs') := by
  have hX := box_made k a bb c v q t h
  have hV9 : A.nV ≤ 1000000000 := by have := hm.nV; omega
  have hN9 : A.nN ≤ 1000000000 := by have := hm.nN; omega
  have hT9 : A.nT ≤ 1000000000 := by have := hm.nT; omega
  obtain ⟨o1, h1, p1, _, b1⟩ := hX.left
  have hT1 : TabAt (w.alloc (.cells #[.int .i64 k, .int .i64 a, .int .i64 bb, .int .i64 c, .int .u64 v, .int .u64 q, .string t] 62)) := hT.kept hX.keeps ho
  have ho1 := tab_out hT ho p1
  obtain ⟨x0, D⟩ := duo_drop h1 hV9 a
  obtain ⟨A', d, rs', nx, ht, C1, C2⟩ := D.beside b1
  have HC1 := Lib.hid C1
  have HC2 := Lib.hid C2
  have HNX := Lib.hid nx
  have HTT := Lib.hid ht
  obtain ⟨k0, k1, k2, k3, k4, k5, k6⟩ := box_cells hX
  have HK := Lib.hid hk
  subst hk
  clear h hX h1 b1 p1 D C1 C2 nx ht hT ho hT1 ho1 hm
  go_enter Tryd.func31, Tryd.ntmps31
  go_wp2_with fail
  refine HC1.out.mono ?_
  rintro e w2 ⟨rfl, st, hs, hX⟩
  have HX := Lib.hid hX
  have HS := Lib.hid hs
  obtain ⟨j0, j1, j2, j3, j4, j5, j6⟩ := box_cells hX
  clear hX hs HC1
  go_wp2_with fail
  refine (HC2.out _ _ HX.out).mono ?_
  rintro e w3 ⟨rfl, hX⟩
  have HX3 := Lib.hid hX
  clear hX HC2 HX
  go_wp2_with fail
  go_ret
  exact ⟨rfl, A'.at st, rs', ⟨⟨HNX.out.size, HNX.out.ab, HNX.out.nN, HNX.out.nV, HNX.out.nT⟩, fun e => (by cases e), d, fun e => (by cases e)⟩, HX3.out.fst⟩

set_option maxHeartbeats 4000000 in
set_option maxRecDepth 100000 in
theorem loads_7 (h : Has o w0 w (.two b rb A A rs)) (hT : TabAt w0) (ho : 0 ∉ o) {m : Nat} (hm : Small A m) (hm9 : m ≤ 100000) (k a bb c v q : Int) (t : ByteArray) (hv0 : 0 ≤ v) (hv1 : v < 18446744073709551616) (hq0 : 0 ≤ q) (hq1 : q < 18446744073709551616) (hk : k = 7) :
    Calls Tryd.prog 31 #[P0 b, P0 rb, .agg #[.int .i64 k, .int .i64 a, .int .i64 bb, .int .i64 c, .int .u64 v, .int .u64 q, .string t]] w fun e w' => e = .returned (.bool true) ∧ ∃ A' rs', Did own3 k A A' rs rs' ∧ Has o w0 w' (.two b rb A' A' rs') := by
  have hX := box_made k a bb c v q t h
  have hV9 : A.nV ≤ 1000000000 := by have := hm.nV; omega
  have hN9 : A.nN ≤ 1000000000 := by have := hm.nN; omega
  have hT9 : A.nT ≤ 1000000000 := by have := hm.nT; omega
  obtain ⟨o1, h1, p1, _, b1⟩ := hX.left
  have hT1 : TabAt (w.alloc (.cells #[.int .i64 k, .int .i64 a, .int .i64 bb, .int .i64 c, .int .u64 v, .int .u64 q, .string t] 62)) := hT.kept hX.keeps ho
  have ho1 := tab_out hT ho p1
  obtain ⟨x0, x1, D⟩ := duo_val h1 a
  obtain ⟨A', d, rs', nx, ht, C1, C2⟩ := D.beside b1
  have HC1 := Lib.hid C1
  have HC2 := Lib.hid C2
  have HNX := Lib.hid nx
  have HTT := Lib.hid ht
  obtain ⟨k0, k1, k2, k3, k4, k5, k6⟩ := box_cells hX
  have HK := Lib.hid hk
  subst hk
  clear h hX h1 b1 p1 D C1 C2 nx ht hT ho hT1 ho1 hm
  go_enter Tryd.func31, Tryd.ntmps31
  go_wp2_with fail
  refine HC1.out.mono ?_
  rintro e w2 ⟨rfl, st, hs, hX⟩
  have HX := Lib.hid hX
  have HS := Lib.hid hs
  obtain ⟨j0, j1, j2, j3, j4, j5, j6⟩ := box_cells hX
  clear hX hs HC1
  go_wp2_with fail
  refine (HC2.out _ _ HX.out).mono ?_
  rintro e w3 ⟨rfl, hX⟩
  have HX3 := Lib.hid hX
  clear hX HC2 HX
  go_wp2_with fail
  go_ret
  exact ⟨rfl, A'.at st, rs', ⟨⟨HNX.out.size, HNX.out.ab, HNX.out.nN, HNX.out.nV, HNX.out.nT⟩, fun e => (by cases e), d, fun e => ⟨HS.out (by simp), HTT.out (by simp)⟩⟩, HX3.out.fst⟩

set_option maxHeartbeats 4000000 in
set_option maxRecDepth 100000 in
theorem loads_18 (h : Has o w0 w (.two b rb A A rs)) (hT : TabAt w0) (ho : 0 ∉ o) {m : Nat} (hm : Small A m) (hm9 : m ≤ 100000) (k a bb c v q : Int) (t : ByteArray) (hv0 : 0 ≤ v) (hv1 : v < 18446744073709551616) (hq0 : 0 ≤ q) (hq1 : q < 18446744073709551616) (hk : k = 18) :
    Calls Tryd.prog 31 #[P0 b, P0 rb, .agg #[.int .i64 k, .int .i64 a, .int .i64 bb, .int .i64 c, .int .u64 v, .int .u64 q, .string t]] w fun e w' => e = .returned (.bool true) ∧ ∃ A' rs', Did own3 k A A' rs rs' ∧ Has o w0 w' (.two b rb A' A' rs') := by
  have hX := box_made k a bb c v q t h
  have hV9 : A.nV ≤ 1000000000 := by have := hm.nV; omega
  have hN9 : A.nN ≤ 1000000000 := by have := hm.nN; omega
  have hT9 : A.nT ≤ 1000000000 := by have := hm.nT; omega
  obtain ⟨o1, h1, p1, _, b1⟩ := hX.left
  have hok := two_ok h1
  by_cases hn : A.isN a = true
  · obtain ⟨i, hi0, hi⟩ := isN_at hn
    subst hi0
    have hv := (some_of hi).1
    obtain ⟨o3, h3, _, _, b3⟩ := Has.left (A := .store b A) (B := .rstore rb A rs) h1
    have HC1 := Lib.hid ((Chain_at h3 i _ hv hV9).mono (R' := fun e w' => ∃ lv st, e = .returned lv ∧ Has o w0 w' ((((Part.store b (A.at st)).sep (.nums lv (chainF A (A.N i).1.toNat (A.N i).1))).sep (.rstore rb A rs)).sep (.blk w.heap.size 7 62 (bxF k ((i : Int) + 1) bb c v q t)))) (by
      rintro e w' ⟨lv, st, rfl, h'⟩
      exact ⟨lv, st, rfl, b1 _ _ (b3 _ _ h')⟩))
    have HOK := Lib.hid hok
    have HV := Lib.hid hv
    obtain ⟨k0, k1, k2, k3, k4, k5, k6⟩ := box_cells hX
    have hlen := (chain_live hok (A.N i).1.toNat (A.N i).1 (hok.headLe i _ hv)).2.2
    have hle := hok.headLe i _ hv
    have hl9 : (chainF A (A.N i).1.toNat (A.N i).1).length ≤ 1000000000 := by omega
    subst hk
    clear h hX h1 b1 p1 hT ho hm h3 b3 hn hok hv hlen hle
    go_enter Tryd.func31, Tryd.ntmps31
    go_wp2_with fail
    refine HC1.out.mono ?_
    rintro e w2 ⟨lv, st, rfl, hX⟩
    obtain ⟨j0, j1, j2, j3, j4, j5, j6⟩ := box_cells hX
    obtain ⟨o4, h4, _, _, b4⟩ := hX.left
    obtain ⟨o5, h5, _, _, b5⟩ := h4.right
    have HC2 := Lib.hid ((rChain_at h5 HOK.out i _ HV.out hV9).mono (R' := fun e w' => ∃ rv, e = .returned rv ∧ Has o w0 w' ((((Part.store b (A.at st)).sep (.nums lv (chainF A (A.N i).1.toNat (A.N i).1))).sep ((Part.rstore rb A rs).sep (.nums rv (chainF A (A.N i).1.toNat (A.N i).1)))).sep (.blk w.heap.size 7 62 (bxF 18 ((i : Int) + 1) bb c v q t)))) (by
      rintro e w' ⟨rv, rfl, h'⟩
      exact ⟨rv, rfl, b4 _ _ (b5 _ _ h')⟩))
    clear hX h4 b4 h5 b5 HC1
    go_wp2_with fail
    refine HC2.out.mono ?_
    rintro e w3 ⟨rv, rfl, hX⟩
    have r1 : RowAt w3 lv (chainF A (A.N i).1.toNat (A.N i).1).length (fun j => .int .i64 (((chainF A (A.N i).1.toNat (A.N i).1).getD j 0 : Nat) : Int)) := by
      obtain ⟨_, h4, _⟩ := hX.left
      obtain ⟨_, h5, _⟩ := h4.left
      obtain ⟨_, h6, _⟩ := h5.right
      exact nums_rowAt h6
    have r2 : RowAt w3 rv (chainF A (A.N i).1.toNat (A.N i).1).length (fun j => .int .i64 (((chainF A (A.N i).1.toNat (A.N i).1).getD j 0 : Nat) : Int)) := by
      obtain ⟨_, h4, _⟩ := hX.left
      obtain ⟨_, h5, _⟩ := h4.right
      obtain ⟨_, h6, _⟩ := h5.right
      exact nums_rowAt h6
    have HI := Lib.hid (ints_same _ _ _ _ _ r1 r2 (by simp only [maxLen]; omega))
    have hfin : Has o w0 w3 (.two b rb (A.at st) (A.at st) rs) := by
      have h4 := hX.fst
      exact h4.weaken (Part.Imp.sep (Part.Imp.fst _ _) (Part.Imp.fst _ _))
    have HF := Lib.hid hfin
    clear hX r1 r2 hfin HC2
    go_wp2_with fail
    refine HI.out.mono ?_
    rintro e w4 ⟨rfl, qq, rfl⟩
    go_wp2_with fail
    go_ret
    exact ⟨rfl, A.at st, rs, ⟨⟨rfl, rfl, by show A.nN ≤ _; omega, by show A.nV ≤ _; omega, by show A.nT ≤ _; omega⟩, fun e => (by cases e), false, fun e => (by cases e)⟩, HF.out.drewN _⟩
  · have hn' : A.isN a = false := by simpa using hn
    obtain ⟨o3, h3, _, _, b3⟩ := Has.left (A := .store b A) (B := .rstore rb A rs) h1
    obtain ⟨o4, h4, _, _, b4⟩ := Has.right (A := .store b A) (B := .rstore rb A rs) h1
    have HC1 := Lib.hid (Chain_none h3 a hn')
    have HC2 := Lib.hid (rChain_no h4 a hn')
    have HX := Lib.hid hX
    obtain ⟨k0, k1, k2, k3, k4, k5, k6⟩ := box_cells hX
    have HI := Lib.hid (fun W => ints_same W (.slice none 0 0) (.slice none 0 0) 0 (fun _ => 0) ⟨none, 0, rfl, fun h => by omega⟩ ⟨none, 0, rfl, fun h => by omega⟩ (by simp only [maxLen]; omega))
    subst hk
    clear h hX h1 b1 p1 hT ho hm h3 b3 h4 b4 hn hn' hok
    go_enter Tryd.func31, Tryd.ntmps31
    go_wp2_with fail
    refine HC1.out.mono ?_
    rintro e w2 ⟨rfl, rfl⟩
    go_wp2_with fail
    refine HC2.out.mono ?_
    rintro e w3 ⟨rfl, rfl⟩
    go_wp2_with fail
    refine (HI.out _).mono ?_
    rintro e w4 ⟨rfl, qq, rfl⟩
    go_wp2_with fail
    go_ret
    exact ⟨rfl, A, rs, Did.none, HX.out.fst.drewN _⟩

set_option maxHeartbeats 4000000 in
set_option maxRecDepth 100000 in
theorem loads_none (h : Has o w0 w (.two b rb A A rs)) (hT : TabAt w0) (ho : 0 ∉ o) {m : Nat} (hm : Small A m) (hm9 : m ≤ 100000) (k a bb c v q : Int) (t : ByteArray) (hv0 : 0 ≤ v) (hv1 : v < 18446744073709551616) (hq0 : 0 ≤ q) (hq1 : q < 18446744073709551616) (hk : own3 k = false) :
    Calls Tryd.prog 31 #[P0 b, P0 rb, .agg #[.int .i64 k, .int .i64 a, .int .i64 bb, .int .i64 c, .int .u64 v, .int .u64 q, .string t]] w fun e w' => e = .returned (.bool true) ∧ ∃ A' rs', Did own3 k A A' rs rs' ∧ Has o w0 w' (.two b rb A' A' rs') := by
  have hX := box_made k a bb c v q t h
  have hV9 : A.nV ≤ 1000000000 := by have := hm.nV; omega
  have hN9 : A.nN ≤ 1000000000 := by have := hm.nN; omega
  have hT9 : A.nT ≤ 1000000000 := by have := hm.nT; omega
  have hks : k ≠ 6 ∧ k ≠ 11 ∧ k ≠ 14 ∧ k ≠ 8 ∧ k ≠ 9 ∧ k ≠ 12 ∧ k ≠ 13 ∧ k ≠ 17 ∧ k ≠ 7 ∧ k ≠ 18 := by unfold own3 at hk; simp at hk; omega
  obtain ⟨n6, n11, n14, n8, n9, n12, n13, n17, n7, n18⟩ := hks
  have f6 : decide (k = 6) = false := by simpa using n6
  have g6 : (k == 6) = false := by simpa using n6
  have f11 : decide (k = 11) = false := by simpa using n11
  have g11 : (k == 11) = false := by simpa using n11
  have f14 : decide (k = 14) = false := by simpa using n14
  have g14 : (k == 14) = false := by simpa using n14
  have f8 : decide (k = 8) = false := by simpa using n8
  have g8 : (k == 8) = false := by simpa using n8
  have f9 : decide (k = 9) = false := by simpa using n9
  have g9 : (k == 9) = false := by simpa using n9
  have f12 : decide (k = 12) = false := by simpa using n12
  have g12 : (k == 12) = false := by simpa using n12
  have f13 : decide (k = 13) = false := by simpa using n13
  have g13 : (k == 13) = false := by simpa using n13
  have f17 : decide (k = 17) = false := by simpa using n17
  have g17 : (k == 17) = false := by simpa using n17
  have f7 : decide (k = 7) = false := by simpa using n7
  have g7 : (k == 7) = false := by simpa using n7
  have f18 : decide (k = 18) = false := by simpa using n18
  have g18 : (k == 18) = false := by simpa using n18
  have HX := Lib.hid hX
  obtain ⟨k0, k1, k2, k3, k4, k5, k6⟩ := box_cells hX
  clear h hX hT ho hm hk
  go_enter Tryd.func31, Tryd.ntmps31
  go_wp2_with fail
  go_ret
  exact ⟨rfl, A, rs, Did.none, HX.out.fst⟩

theorem loads_walk (h : Has o w0 w (.two b rb A A rs)) (hT : TabAt w0) (ho : 0 ∉ o) {m : Nat} (hm : Small A m) (hm9 : m ≤ 100000) (k a bb c v q : Int) (t : ByteArray) (hv0 : 0 ≤ v) (hv1 : v < 18446744073709551616) (hq0 : 0 ≤ q) (hq1 : q < 18446744073709551616) :
    Calls Tryd.prog 31 #[P0 b, P0 rb, .agg #[.int .i64 k, .int .i64 a, .int .i64 bb, .int .i64 c, .int .u64 v, .int .u64 q, .string t]] w fun e w' => e = .returned (.bool true) ∧ ∃ A' rs', Did own3 k A A' rs rs' ∧ Has o w0 w' (.two b rb A' A' rs') := by
  by_cases hk : own3 k = false
  · exact loads_none h hT ho hm hm9 k a bb c v q t hv0 hv1 hq0 hq1 hk
  · have hks : k = 6 ∨ k = 11 ∨ k = 14 ∨ k = 8 ∨ k = 9 ∨ k = 12 ∨ k = 13 ∨ k = 17 ∨ k = 7 ∨ k = 18 := by unfold own3 at hk; simp at hk; omega
    rcases hks with hk | hk | hk | hk | hk | hk | hk | hk | hk | hk
    · exact loads_6 h hT ho hm hm9 k a bb c v q t hv0 hv1 hq0 hq1 hk
    · exact loads_11 h hT ho hm hm9 k a bb c v q t hv0 hv1 hq0 hq1 hk
    · exact loads_14 h hT ho hm hm9 k a bb c v q t hv0 hv1 hq0 hq1 hk
    · exact loads_8 h hT ho hm hm9 k a bb c v q t hv0 hv1 hq0 hq1 hk
    · exact loads_9 h hT ho hm hm9 k a bb c v q t hv0 hv1 hq0 hq1 hk
    · exact loads_12 h hT ho hm hm9 k a bb c v q t hv0 hv1 hq0 hq1 hk
    · exact loads_13 h hT ho hm hm9 k a bb c v q t hv0 hv1 hq0 hq1 hk
    · exact loads_17 h hT ho hm hm9 k a bb c v q t hv0 hv1 hq0 hq1 hk
    · exact loads_7 h hT ho hm hm9 k a bb c v q t hv0 hv1 hq0 hq1 hk
    · exact loads_18 h hT ho hm hm9 k a bb c v q t hv0 hv1 hq0 hq1 hk

set_option maxHeartbeats 1000000 in
set_option maxRecDepth 100000 in
theorem touches_walk (w : World) (k : Int) :
    Calls Tryd.prog 33 #[.int .i64 k] w fun e w' => e = .returned (.bool (touchK k)) ∧ w' = w := by
  go_enter Tryd.func33, Tryd.ntmps33
  by_cases hk : touchK k = false
  · rw [hk]
    unfold touchK at hk
    simp only [Bool.or_eq_false_iff, decide_eq_false_iff_not] at hk
    obtain ⟨⟨⟨⟨⟨⟨⟨⟨⟨⟨n4, n5⟩, n6⟩, n8⟩, n9⟩, n10⟩, n11⟩, n12⟩, n14⟩, n15⟩, n7⟩ := hk
    have f4 : decide (k = 4) = false := by simpa using n4
    have g4 : (k == 4) = false := by simpa using n4
    have f5 : decide (k = 5) = false := by simpa using n5
    have g5 : (k == 5) = false := by simpa using n5
    have f6 : decide (k = 6) = false := by simpa using n6
    have g6 : (k == 6) = false := by simpa using n6
    have f8 : decide (k = 8) = false := by simpa using n8
    have g8 : (k == 8) = false := by simpa using n8
    have f9 : decide (k = 9) = false := by simpa using n9
    have g9 : (k == 9) = false := by simpa using n9
    have f10 : decide (k = 10) = false := by simpa using n10
    have g10 : (k == 10) = false := by simpa using n10
    have f11 : decide (k = 11) = false := by simpa using n11
    have g11 : (k == 11) = false := by simpa using n11
    have f12 : decide (k = 12) = false := by simpa using n12
    have g12 : (k == 12) = false := by simpa using n12
    have f14 : decide (k = 14) = false := by simpa using n14
    have g14 : (k == 14) = false := by simpa using n14
    have f15 : decide (k = 15) = false := by simpa using n15
    have g15 : (k == 15) = false := by simpa using n15
    have f7 : decide (k = 7) = false := by simpa using n7
    have g7 : (k == 7) = false := by simpa using n7
    go_wp2_with fail
    go_ret
    exact ⟨rfl, rfl⟩
  · have hks : k = 4 ∨ k = 5 ∨ k = 6 ∨ k = 8 ∨ k = 9 ∨ k = 10 ∨ k = 11 ∨ k = 12 ∨ k = 14 ∨ k = 15 ∨ k = 7 := by unfold touchK at hk; simp at hk; omega
    rcases hks with rfl | rfl | rfl | rfl | rfl | rfl | rfl | rfl | rfl | rfl | rfl
    all_goals (
      go_wp2_with fail
      go_ret
      exact ⟨rfl, rfl⟩)
end Go.Proofs.YtlaffmdflleeeaaDoor
