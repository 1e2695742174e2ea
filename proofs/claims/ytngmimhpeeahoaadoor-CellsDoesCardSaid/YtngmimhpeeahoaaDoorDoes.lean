/- The walk of a step by both arenas, at every arena, every step. -/
import Derived.Test.YtngmimhpeeahoaaDoorCall
namespace Go.Proofs.YtngmimhpeeahoaaDoor
open Go Go.RowKit
set_option linter.unusedVariables false

theorem two_call {o w0 w b r} {S R : Ar} (h : TwoF o w0 w b r S R) (hT : TabAt w0) (ho : 0 ∉ o) (k c x y : Int) (hk : k = 1 ∨ k = 2 ∨ k = 3 ∨ k = 4) (h0 : -9223372036854775808 ≤ c) (h1 : c < 9223372036854775808) :
    Calls Tryd.prog 29 #[.pointer (some ⟨b, 0, none⟩), .agg #[.int .i64 k, .int .i64 c, .int .u64 x, .int .u64 y]] w fun e w' => e = .returned (.tuple #[.int .u64 (doS S k c x y).1, .int .i64 (doS S k c x y).2.1]) ∧ TwoF o w0 w' b r (doS S k c x y).2.2 R :=
  two_of_own h hT ho fun o hO hT' ho => own_call hO k c x y hk h0 h1

theorem box_cell (w : World) (cs : Array Value) (t : TypeId) (i : Nat) (v : Value) (h : cs[i]? = some v) : (w.alloc (.cells cs t)).cell? ⟨w.heap.size, i, none⟩ = some v := (World.cell?_alloc_at cs t _ i rfl).trans h

set_option maxHeartbeats 1000000 in
set_option maxRecDepth 100000 in
theorem does_alloc {w0 w b r} {S : Ar} (h : Two w0 w b r S S) (hT : TabAt w0) (k c x y : Int)  :
    Calls Tryd.prog 20 #[.pointer (some ⟨b, 0, none⟩), .pointer (some ⟨r, 0, none⟩), .agg #[.int .i64 1, .int .i64 k, .int .i64 c, .int .u64 x, .int .u64 y]] w fun e w' => e = .returned (.bool true) ∧ ∃ S', Two w0 w' b r S' S' := by
  obtain ⟨o, H⟩ := two_enter h hT (by simp)
  have HH := Lib.hid H
  have HO0 := Lib.hid h
  clear h hT H
  go_enter Tryd.func20, Tryd.ntmps20
  go_wp2_with fail
  refine (two_alloc (HH.out.1 _) (HH.out.2.2.2.1.kept ((Kept.refl [] _).alloc _) (by simp)) HH.out.2.2.1).mono ?_
  rintro e w1 ⟨rfl, hO⟩
  have b1 := hO.kept.cell (box_cell _ _ _ 1 _ rfl) HH.out.2.1
  have b2 := hO.kept.cell (box_cell _ _ _ 2 _ rfl) HH.out.2.1
  have b3 := hO.kept.cell (box_cell _ _ _ 3 _ rfl) HH.out.2.1
  have b4 := hO.kept.cell (box_cell _ _ _ 4 _ rfl) HH.out.2.1
  have HO := Lib.hid hO
  clear hO
  go_wp2_with fail
  refine (two_ralloc HO.out).mono ?_
  rintro e w2 ⟨rfl, hO⟩
  have e1 : ((allocS S).1 == (allocS S).1) = true := by simp
  have e2 : ((allocS S).2.1 == (allocS S).2.1) = true := by simp
  clear HO
  have HO := Lib.hid hO
  clear hO
  go_wp2_with fail
  go_ret
  exact ⟨rfl, _, HH.out.2.2.2.2 _ _ _ _ HO.out⟩

set_option maxHeartbeats 1000000 in
set_option maxRecDepth 100000 in
theorem does_free {w0 w b r} {S : Ar} (h : Two w0 w b r S S) (hT : TabAt w0) (k c x y : Int) (hc : -9223372036854775808 ≤ c ∧ c < 9223372036854775808) :
    Calls Tryd.prog 20 #[.pointer (some ⟨b, 0, none⟩), .pointer (some ⟨r, 0, none⟩), .agg #[.int .i64 2, .int .i64 k, .int .i64 c, .int .u64 x, .int .u64 y]] w fun e w' => e = .returned (.bool true) ∧ ∃ S', Two w0 w' b r S' S' := by
  obtain ⟨o, H⟩ := two_enter h hT (by simp)
  have HH := Lib.hid H
  have HO0 := Lib.hid h
  have HC := Lib.hid hc
  clear hc
  clear h hT H
  go_enter Tryd.func20, Tryd.ntmps20
  go_wp2_with fail
  refine (two_free (HH.out.1 _) (HH.out.2.2.2.1.kept ((Kept.refl [] _).alloc _) (by simp)) HH.out.2.2.1 c HC.out.1 HC.out.2).mono ?_
  rintro e w1 ⟨rfl, hO⟩
  have b1 := hO.kept.cell (box_cell _ _ _ 1 _ rfl) HH.out.2.1
  have b2 := hO.kept.cell (box_cell _ _ _ 2 _ rfl) HH.out.2.1
  have b3 := hO.kept.cell (box_cell _ _ _ 3 _ rfl) HH.out.2.1
  have b4 := hO.kept.cell (box_cell _ _ _ 4 _ rfl) HH.out.2.1
  have HO := Lib.hid hO
  clear hO
  go_wp2_with fail
  refine (two_rfree HO.out c).mono ?_
  rintro e w2 ⟨rfl, hO⟩
  have e1 : ((freeS S c).1 == (freeS S c).1) = true := by simp
  clear HO
  have HO := Lib.hid hO
  clear hO
  go_wp2_with fail
  go_ret
  exact ⟨rfl, _, HH.out.2.2.2.2 _ _ _ _ HO.out⟩

set_option maxHeartbeats 1000000 in
set_option maxRecDepth 100000 in
theorem does_do {w0 w b r} {S : Ar} (h : Two w0 w b r S S) (hT : TabAt w0) (k c x y : Int) (hc : -9223372036854775808 ≤ c ∧ c < 9223372036854775808) :
    Calls Tryd.prog 20 #[.pointer (some ⟨b, 0, none⟩), .pointer (some ⟨r, 0, none⟩), .agg #[.int .i64 3, .int .i64 k, .int .i64 c, .int .u64 x, .int .u64 y]] w fun e w' => e = .returned (.bool true) ∧ ∃ S', Two w0 w' b r S' S' := by
  obtain ⟨o, H⟩ := two_enter h hT (by simp)
  have HH := Lib.hid H
  have HO0 := Lib.hid h
  have HC := Lib.hid hc
  clear hc
  clear h hT H
  go_enter Tryd.func20, Tryd.ntmps20
  go_wp2_with fail
  refine (two_do (HH.out.1 _) (HH.out.2.2.2.1.kept ((Kept.refl [] _).alloc _) (by simp)) HH.out.2.2.1 k c x y HC.out.1 HC.out.2).mono ?_
  rintro e w1 ⟨rfl, hO⟩
  have b1 := hO.kept.cell (box_cell _ _ _ 1 _ rfl) HH.out.2.1
  have b2 := hO.kept.cell (box_cell _ _ _ 2 _ rfl) HH.out.2.1
  have b3 := hO.kept.cell (box_cell _ _ _ 3 _ rfl) HH.out.2.1
  have b4 := hO.kept.cell (box_cell _ _ _ 4 _ rfl) HH.out.2.1
  have HO := Lib.hid hO
  clear hO
  go_wp2_with fail
  refine (two_rdo HO.out k c x y).mono ?_
  rintro e w2 ⟨rfl, hO⟩
  have e1 : ((doS S k c x y).1 == (doS S k c x y).1) = true := by simp
  have e2 : ((doS S k c x y).2.1 == (doS S k c x y).2.1) = true := by simp
  clear HO
  have HO := Lib.hid hO
  clear hO
  go_wp2_with fail
  go_ret
  exact ⟨rfl, _, HH.out.2.2.2.2 _ _ _ _ HO.out⟩

set_option maxHeartbeats 1000000 in
set_option maxRecDepth 100000 in
theorem does_call {w0 w b r} {S : Ar} (h : Two w0 w b r S S) (hT : TabAt w0) (k c x y : Int) (hc : -9223372036854775808 ≤ c ∧ c < 9223372036854775808) (hk : k = 1 ∨ k = 2 ∨ k = 3 ∨ k = 4) :
    Calls Tryd.prog 20 #[.pointer (some ⟨b, 0, none⟩), .pointer (some ⟨r, 0, none⟩), .agg #[.int .i64 4, .int .i64 k, .int .i64 c, .int .u64 x, .int .u64 y]] w fun e w' => e = .returned (.bool true) ∧ ∃ S', Two w0 w' b r S' S' := by
  obtain ⟨o, H⟩ := two_enter h hT (by simp)
  have HH := Lib.hid H
  have HO0 := Lib.hid h
  have HC := Lib.hid hc
  clear hc
  have HK := Lib.hid hk
  have d1 : decide (k < 1) = false := by have := HK.out; simp; omega
  have d2 : decide (k > 4) = false := by have := HK.out; simp; omega
  clear hk
  clear h hT H
  go_enter Tryd.func20, Tryd.ntmps20
  go_wp2_with fail
  refine (two_call (HH.out.1 _) (HH.out.2.2.2.1.kept ((Kept.refl [] _).alloc _) (by simp)) HH.out.2.2.1 k c x y HK.out HC.out.1 HC.out.2).mono ?_
  rintro e w1 ⟨rfl, hO⟩
  have b1 := hO.kept.cell (box_cell _ _ _ 1 _ rfl) HH.out.2.1
  have b2 := hO.kept.cell (box_cell _ _ _ 2 _ rfl) HH.out.2.1
  have b3 := hO.kept.cell (box_cell _ _ _ 3 _ rfl) HH.out.2.1
  have b4 := hO.kept.cell (box_cell _ _ _ 4 _ rfl) HH.out.2.1
  have HO := Lib.hid hO
  clear hO
  go_wp2_with fail
  refine (two_rdo HO.out k c x y).mono ?_
  rintro e w2 ⟨rfl, hO⟩
  have e1 : ((doS S k c x y).1 == (doS S k c x y).1) = true := by simp
  have e2 : ((doS S k c x y).2.1 == (doS S k c x y).2.1) = true := by simp
  clear HO
  have HO := Lib.hid hO
  clear hO
  go_wp2_with fail
  go_ret
  exact ⟨rfl, _, HH.out.2.2.2.2 _ _ _ _ HO.out⟩

set_option maxHeartbeats 1000000 in
set_option maxRecDepth 100000 in
theorem does_skip_low {w0 w b r} {S : Ar} (h : Two w0 w b r S S) (hT : TabAt w0) (k c x y : Int) (hk : k < 1) :
    Calls Tryd.prog 20 #[.pointer (some ⟨b, 0, none⟩), .pointer (some ⟨r, 0, none⟩), .agg #[.int .i64 4, .int .i64 k, .int .i64 c, .int .u64 x, .int .u64 y]] w fun e w' => e = .returned (.bool true) ∧ ∃ S', Two w0 w' b r S' S' := by
  obtain ⟨o, H⟩ := two_enter h hT (by simp)
  have HH := Lib.hid H
  have HO0 := Lib.hid h
  have d1 : decide (k < 1) = true := by simpa using hk
  clear hk
  clear h hT H
  go_enter Tryd.func20, Tryd.ntmps20
  go_wp2_with fail
  go_ret
  exact ⟨rfl, _, HO0.out.alloc _⟩

set_option maxHeartbeats 1000000 in
set_option maxRecDepth 100000 in
theorem does_skip_high {w0 w b r} {S : Ar} (h : Two w0 w b r S S) (hT : TabAt w0) (k c x y : Int) (hk : 4 < k) :
    Calls Tryd.prog 20 #[.pointer (some ⟨b, 0, none⟩), .pointer (some ⟨r, 0, none⟩), .agg #[.int .i64 4, .int .i64 k, .int .i64 c, .int .u64 x, .int .u64 y]] w fun e w' => e = .returned (.bool true) ∧ ∃ S', Two w0 w' b r S' S' := by
  obtain ⟨o, H⟩ := two_enter h hT (by simp)
  have HH := Lib.hid H
  have HO0 := Lib.hid h
  have d1 : decide (k < 1) = false := by simp; omega
  have d2 : decide (k > 4) = true := by simpa using hk
  clear hk
  clear h hT H
  go_enter Tryd.func20, Tryd.ntmps20
  go_wp2_with fail
  go_ret
  exact ⟨rfl, _, HO0.out.alloc _⟩

set_option maxHeartbeats 1000000 in
set_option maxRecDepth 100000 in
theorem does_other {w0 w b r} {S : Ar} (h : Two w0 w b r S S) (hT : TabAt w0) (k c x y : Int) (m : Int) (h1 : (m == 1) = false) (h2 : (m == 2) = false) (h3 : (m == 3) = false) (h4 : (m == 4) = false) :
    Calls Tryd.prog 20 #[.pointer (some ⟨b, 0, none⟩), .pointer (some ⟨r, 0, none⟩), .agg #[.int .i64 m, .int .i64 k, .int .i64 c, .int .u64 x, .int .u64 y]] w fun e w' => e = .returned (.bool true) ∧ ∃ S', Two w0 w' b r S' S' := by
  obtain ⟨o, H⟩ := two_enter h hT (by simp)
  have HH := Lib.hid H
  have HO0 := Lib.hid h
  clear h hT H
  go_enter Tryd.func20, Tryd.ntmps20
  go_wp2_with fail
  go_ret
  exact ⟨rfl, _, HO0.out.alloc _⟩

/-- A step, whatever it is. -/
theorem does_calls {w0 w b r} {S : Ar} (h : Two w0 w b r S S) (hT : TabAt w0) (m k c x y : Int) (hc : -9223372036854775808 ≤ c ∧ c < 9223372036854775808) :
    Calls Tryd.prog 20 #[.pointer (some ⟨b, 0, none⟩), .pointer (some ⟨r, 0, none⟩), .agg #[.int .i64 m, .int .i64 k, .int .i64 c, .int .u64 x, .int .u64 y]] w fun e w' => e = .returned (.bool true) ∧ ∃ S', Two w0 w' b r S' S' := by
  by_cases h1 : m = 1
  · subst h1; exact does_alloc h hT k c x y
  by_cases h2 : m = 2
  · subst h2; exact does_free h hT k c x y hc
  by_cases h3 : m = 3
  · subst h3; exact does_do h hT k c x y hc
  by_cases h4 : m = 4
  · subst h4
    by_cases hl : k < 1
    · exact does_skip_low h hT k c x y hl
    · by_cases hh : 4 < k
      · exact does_skip_high h hT k c x y hh
      · exact does_call h hT k c x y hc (by omega)
  · exact does_other h hT k c x y m (by simpa using h1) (by simpa using h2) (by simpa using h3) (by simpa using h4)
end Go.Proofs.YtngmimhpeeahoaaDoor
