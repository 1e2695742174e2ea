/- The walks of the reference's Do and Free. -/
import Derived.Test.YtngmimhpeeahoaaDoorRef
namespace Go.Proofs.YtngmimhpeeahoaaDoor
open Go Go.RowKit
set_option linter.unusedVariables false

set_option maxHeartbeats 1000000 in
theorem rfree_walk (w : World) (b n cap k g : Nat) (t : Bool) (hn : n ≤ 65536) (h2 : w.cell? ⟨b, 2, none⟩ = some (.slice (some ⟨g, 0, none⟩) n cap)) (hc : k < n) (ht : w.cell? ⟨g, k, none⟩ = some (.bool t)) (hf : w.frozen? ⟨g, k, none⟩ = false)
    (hth : Calls Tryd.prog 30 #[.pointer (some ⟨b, 0, none⟩), .int .i64 k] w fun e w' => e = .returned (.bool true) ∧ w = w') :
    Calls Tryd.prog 27 #[.pointer (some ⟨b, 0, none⟩), .int .i64 k] w fun e w' => e = .returned (.int .i64 0) ∧ w' = w.setCell ⟨g, k, none⟩ (.bool false) := by
  have HT := Lib.hid hth
  clear hth
  go_enter Tryd.func27, Tryd.ntmps27
  go_wp2_with (go_at_call 30; refine (HT.out).mono ?_; rintro e w' ⟨rfl, rfl⟩)
  go_ret
  exact ⟨rfl, rfl⟩

set_option maxHeartbeats 1000000 in
theorem rfree_walk_no (w : World) (b : Nat) (c : Int)
    (hth : Calls Tryd.prog 30 #[.pointer (some ⟨b, 0, none⟩), .int .i64 c] w fun e w' => e = .returned (.bool false) ∧ w = w') :
    Calls Tryd.prog 27 #[.pointer (some ⟨b, 0, none⟩), .int .i64 c] w fun e w' => e = .returned (.int .i64 30) ∧ w = w' := by
  have HT := Lib.hid hth
  clear hth
  go_enter Tryd.func27, Tryd.ntmps27
  go_wp2_with (go_at_call 30; refine (HT.out).mono ?_; rintro e w' ⟨rfl, rfl⟩)
  go_ret
  exact ⟨rfl, rfl⟩

set_option maxHeartbeats 1000000 in
set_option maxRecDepth 100000 in
theorem rdo_load (w : World) (b n cap k g : Nat) (z x y many : Int) (hn : n ≤ 65536) (hb : b < w.heap.size) (hg : g < w.heap.size) (hgb : g ≠ b) (h1 : w.cell? ⟨b, 1, none⟩ = some (.slice (some ⟨g, 0, none⟩) n cap)) (h3 : w.cell? ⟨b, 3, none⟩ = some (.int .i64 many)) (hc : k < n) (ht : w.cell? ⟨g, k, none⟩ = some (.int .u64 z)) (hf : w.frozen? ⟨g, k, none⟩ = false) (hfb : ∀ i, w.frozen? ⟨b, i, none⟩ = false)
    (hth : Calls Tryd.prog 30 #[.pointer (some ⟨b, 0, none⟩), .int .i64 k] (w.alloc (.cells #[.int .i64 1, .int .i64 k, .int .u64 x, .int .u64 y] 45)) fun e w' => e = .returned (.bool true) ∧ (w.alloc (.cells #[.int .i64 1, .int .i64 k, .int .u64 x, .int .u64 y] 45)) = w') :
    Calls Tryd.prog 28 #[.pointer (some ⟨b, 0, none⟩), .agg #[.int .i64 1, .int .i64 k, .int .u64 x, .int .u64 y]] w fun e w' => e = .returned (.tuple #[.int .u64 (z), .int .i64 0]) ∧ ∃ n, w' = (((w.setCell ⟨b, 3, none⟩ (.int .i64 (wrap64 (many + 1)))).alloc (.cells #[.int .i64 1, .int .i64 k, .int .u64 x, .int .u64 y] 45)).drewN n) := by
  have HT := Lib.hid hth
  clear hth
  go_enter Tryd.func28, Tryd.ntmps28
  go_wp2_with (go_at_call 30; refine (HT.out).mono ?_; rintro e w' ⟨rfl, rfl⟩)
  have hin : 0 ≤ (k : Int) ∧ (k : Int) < (n : Int) := by omega
  go_quiet (fail)
  go_wp2
  go_ret2
  exact ⟨rfl, _, rfl⟩

set_option maxHeartbeats 1000000 in
set_option maxRecDepth 100000 in
theorem rdo_store (w : World) (b n cap k g : Nat) (z x y many : Int) (hn : n ≤ 65536) (hb : b < w.heap.size) (hg : g < w.heap.size) (hgb : g ≠ b) (h1 : w.cell? ⟨b, 1, none⟩ = some (.slice (some ⟨g, 0, none⟩) n cap)) (h3 : w.cell? ⟨b, 3, none⟩ = some (.int .i64 many)) (hc : k < n) (ht : w.cell? ⟨g, k, none⟩ = some (.int .u64 z)) (hf : w.frozen? ⟨g, k, none⟩ = false) (hfb : ∀ i, w.frozen? ⟨b, i, none⟩ = false)
    (hth : Calls Tryd.prog 30 #[.pointer (some ⟨b, 0, none⟩), .int .i64 k] (w.alloc (.cells #[.int .i64 2, .int .i64 k, .int .u64 x, .int .u64 y] 45)) fun e w' => e = .returned (.bool true) ∧ (w.alloc (.cells #[.int .i64 2, .int .i64 k, .int .u64 x, .int .u64 y] 45)) = w') :
    Calls Tryd.prog 28 #[.pointer (some ⟨b, 0, none⟩), .agg #[.int .i64 2, .int .i64 k, .int .u64 x, .int .u64 y]] w fun e w' => e = .returned (.tuple #[.int .u64 (0), .int .i64 0]) ∧ ∃ n, w' = ((((w.setCell ⟨b, 3, none⟩ (.int .i64 (wrap64 (many + 1)))).alloc (.cells #[.int .i64 2, .int .i64 k, .int .u64 x, .int .u64 y] 45)).drewN n).setCell ⟨g, k, none⟩ (.int .u64 (x))) := by
  have HT := Lib.hid hth
  clear hth
  go_enter Tryd.func28, Tryd.ntmps28
  go_wp2_with (go_at_call 30; refine (HT.out).mono ?_; rintro e w' ⟨rfl, rfl⟩)
  have hin : 0 ≤ (k : Int) ∧ (k : Int) < (n : Int) := by omega
  go_quiet (fail)
  go_wp2
  go_region
  go_wp2
  go_ret2
  exact ⟨rfl, _, rfl⟩

set_option maxHeartbeats 1000000 in
set_option maxRecDepth 100000 in
theorem rdo_cas (w : World) (b n cap k g : Nat) (z x y many : Int) (hn : n ≤ 65536) (hb : b < w.heap.size) (hg : g < w.heap.size) (hgb : g ≠ b) (h1 : w.cell? ⟨b, 1, none⟩ = some (.slice (some ⟨g, 0, none⟩) n cap)) (h3 : w.cell? ⟨b, 3, none⟩ = some (.int .i64 many)) (hc : k < n) (ht : w.cell? ⟨g, k, none⟩ = some (.int .u64 z)) (hf : w.frozen? ⟨g, k, none⟩ = false) (hfb : ∀ i, w.frozen? ⟨b, i, none⟩ = false) (hx : (z == x) = true) (hx2 : (z != x) = false)
    (hth : Calls Tryd.prog 30 #[.pointer (some ⟨b, 0, none⟩), .int .i64 k] (w.alloc (.cells #[.int .i64 3, .int .i64 k, .int .u64 x, .int .u64 y] 45)) fun e w' => e = .returned (.bool true) ∧ (w.alloc (.cells #[.int .i64 3, .int .i64 k, .int .u64 x, .int .u64 y] 45)) = w') :
    Calls Tryd.prog 28 #[.pointer (some ⟨b, 0, none⟩), .agg #[.int .i64 3, .int .i64 k, .int .u64 x, .int .u64 y]] w fun e w' => e = .returned (.tuple #[.int .u64 (1), .int .i64 0]) ∧ ∃ n, w' = ((((w.setCell ⟨b, 3, none⟩ (.int .i64 (wrap64 (many + 1)))).alloc (.cells #[.int .i64 3, .int .i64 k, .int .u64 x, .int .u64 y] 45)).drewN n).setCell ⟨g, k, none⟩ (.int .u64 (y))) := by
  have HT := Lib.hid hth
  clear hth
  go_enter Tryd.func28, Tryd.ntmps28
  go_wp2_with (go_at_call 30; refine (HT.out).mono ?_; rintro e w' ⟨rfl, rfl⟩)
  have hin : 0 ≤ (k : Int) ∧ (k : Int) < (n : Int) := by omega
  go_quiet (fail)
  go_wp2
  go_region
  go_wp2
  go_ret2
  exact ⟨rfl, _, rfl⟩

set_option maxHeartbeats 1000000 in
set_option maxRecDepth 100000 in
theorem rdo_cas_not (w : World) (b n cap k g : Nat) (z x y many : Int) (hn : n ≤ 65536) (hb : b < w.heap.size) (hg : g < w.heap.size) (hgb : g ≠ b) (h1 : w.cell? ⟨b, 1, none⟩ = some (.slice (some ⟨g, 0, none⟩) n cap)) (h3 : w.cell? ⟨b, 3, none⟩ = some (.int .i64 many)) (hc : k < n) (ht : w.cell? ⟨g, k, none⟩ = some (.int .u64 z)) (hf : w.frozen? ⟨g, k, none⟩ = false) (hfb : ∀ i, w.frozen? ⟨b, i, none⟩ = false) (hx : (z == x) = false) (hx2 : (z != x) = true)
    (hth : Calls Tryd.prog 30 #[.pointer (some ⟨b, 0, none⟩), .int .i64 k] (w.alloc (.cells #[.int .i64 3, .int .i64 k, .int .u64 x, .int .u64 y] 45)) fun e w' => e = .returned (.bool true) ∧ (w.alloc (.cells #[.int .i64 3, .int .i64 k, .int .u64 x, .int .u64 y] 45)) = w') :
    Calls Tryd.prog 28 #[.pointer (some ⟨b, 0, none⟩), .agg #[.int .i64 3, .int .i64 k, .int .u64 x, .int .u64 y]] w fun e w' => e = .returned (.tuple #[.int .u64 (0), .int .i64 0]) ∧ ∃ n, w' = (((w.setCell ⟨b, 3, none⟩ (.int .i64 (wrap64 (many + 1)))).alloc (.cells #[.int .i64 3, .int .i64 k, .int .u64 x, .int .u64 y] 45)).drewN n) := by
  have HT := Lib.hid hth
  clear hth
  go_enter Tryd.func28, Tryd.ntmps28
  go_wp2_with (go_at_call 30; refine (HT.out).mono ?_; rintro e w' ⟨rfl, rfl⟩)
  have hin : 0 ≤ (k : Int) ∧ (k : Int) < (n : Int) := by omega
  go_quiet (fail)
  go_wp2
  go_ret2
  exact ⟨rfl, _, rfl⟩

set_option maxHeartbeats 1000000 in
set_option maxRecDepth 100000 in
theorem rdo_add (w : World) (b n cap k g : Nat) (z x y many : Int) (hn : n ≤ 65536) (hb : b < w.heap.size) (hg : g < w.heap.size) (hgb : g ≠ b) (h1 : w.cell? ⟨b, 1, none⟩ = some (.slice (some ⟨g, 0, none⟩) n cap)) (h3 : w.cell? ⟨b, 3, none⟩ = some (.int .i64 many)) (hc : k < n) (ht : w.cell? ⟨g, k, none⟩ = some (.int .u64 z)) (hf : w.frozen? ⟨g, k, none⟩ = false) (hfb : ∀ i, w.frozen? ⟨b, i, none⟩ = false)
    (hth : Calls Tryd.prog 30 #[.pointer (some ⟨b, 0, none⟩), .int .i64 k] (w.alloc (.cells #[.int .i64 4, .int .i64 k, .int .u64 x, .int .u64 y] 45)) fun e w' => e = .returned (.bool true) ∧ (w.alloc (.cells #[.int .i64 4, .int .i64 k, .int .u64 x, .int .u64 y] 45)) = w') :
    Calls Tryd.prog 28 #[.pointer (some ⟨b, 0, none⟩), .agg #[.int .i64 4, .int .i64 k, .int .u64 x, .int .u64 y]] w fun e w' => e = .returned (.tuple #[.int .u64 (IntKind.u64.wrap (z + x)), .int .i64 0]) ∧ ∃ n, w' = ((((w.setCell ⟨b, 3, none⟩ (.int .i64 (wrap64 (many + 1)))).alloc (.cells #[.int .i64 4, .int .i64 k, .int .u64 x, .int .u64 y] 45)).drewN n).setCell ⟨g, k, none⟩ (.int .u64 (IntKind.u64.wrap (z + x)))) := by
  have HT := Lib.hid hth
  clear hth
  go_enter Tryd.func28, Tryd.ntmps28
  go_wp2_with (go_at_call 30; refine (HT.out).mono ?_; rintro e w' ⟨rfl, rfl⟩)
  have hin : 0 ≤ (k : Int) ∧ (k : Int) < (n : Int) := by omega
  go_quiet (fail)
  go_wp2
  go_region
  go_wp2
  go_ret2
  exact ⟨rfl, _, rfl⟩

set_option maxHeartbeats 1000000 in
theorem rdo_no (w : World) (b : Nat) (k c x y : Int) (hk1 : decide (k < 1) = false) (hk2 : decide (k > 4) = false)
    (hth : Calls Tryd.prog 30 #[.pointer (some ⟨b, 0, none⟩), .int .i64 c] (w.alloc (.cells #[.int .i64 k, .int .i64 c, .int .u64 x, .int .u64 y] 45)) fun e w' => e = .returned (.bool false) ∧ (w.alloc (.cells #[.int .i64 k, .int .i64 c, .int .u64 x, .int .u64 y] 45)) = w') :
    Calls Tryd.prog 28 #[.pointer (some ⟨b, 0, none⟩), .agg #[.int .i64 k, .int .i64 c, .int .u64 x, .int .u64 y]] w fun e w' => e = .returned (.tuple #[.int .u64 0, .int .i64 30]) ∧ w' = w.alloc (.cells #[.int .i64 k, .int .i64 c, .int .u64 x, .int .u64 y] 45) := by
  have HT := Lib.hid hth
  clear hth
  go_enter Tryd.func28, Tryd.ntmps28
  go_wp2_with (go_at_call 30; refine (HT.out).mono ?_; rintro e w' ⟨rfl, rfl⟩)
  go_ret2
  exact ⟨rfl, rfl⟩

set_option maxHeartbeats 1000000 in
theorem rdo_kind (w : World) (b : Nat) (k c x y : Int) (hk : k < 1 ∨ 4 < k) :
    Calls Tryd.prog 28 #[.pointer (some ⟨b, 0, none⟩), .agg #[.int .i64 k, .int .i64 c, .int .u64 x, .int .u64 y]] w fun e w' => e = .returned (.tuple #[.int .u64 0, .int .i64 2]) ∧ w' = w.alloc (.cells #[.int .i64 k, .int .i64 c, .int .u64 x, .int .u64 y] 45) := by
  rcases hk with hk | hk
  · have h1 : decide (k < 1) = true := by simp; omega
    go_enter Tryd.func28, Tryd.ntmps28
    go_wp2
    go_ret2
    exact ⟨rfl, rfl⟩
  · have h1 : decide (k < 1) = false := by simp; omega
    have h2 : decide (k > 4) = true := by simp; omega
    go_enter Tryd.func28, Tryd.ntmps28
    go_wp2
    go_ret2
    exact ⟨rfl, rfl⟩

set_option maxHeartbeats 1000000 in
theorem rnew_walk (w : World) (size : Int) (h0 : 1 ≤ size) (h1 : size ≤ 65536) :
    Calls Tryd.prog 19 #[.int .i64 size] w fun e w' => e = .returned (.tuple #[.pointer (some ⟨w.heap.size, 0, none⟩), .int .i64 0]) ∧ w' = w.alloc (.cells #[.int .i64 size, .slice none 0 0, .slice none 0 0, .int .i64 0] 57) := by
  have h2 : decide (size < 1) = false := by simp; omega
  have h3 : decide (size > 65536) = false := by simp; omega
  have hz : ∀ w, (zeroValue 57).run Tryd.prog w = .ok (.agg #[.int .i64 0, .slice none 0 0, .slice none 0 0, .int .i64 0]) w := fun w => by kernel_rfl
  go_enter Tryd.func19, Tryd.ntmps19
  go_wp2
  go_ret2
  exact ⟨rfl, rfl⟩

set_option maxHeartbeats 1000000 in
theorem rnew_walk_no (w : World) (size : Int) (h : size < 1 ∨ 65536 < size) :
    Calls Tryd.prog 19 #[.int .i64 size] w fun e w' => e = .returned (.tuple #[.pointer none, .int .i64 2]) ∧ w = w' := by
  rcases h with h | h
  · have h2 : decide (size < 1) = true := by simp; omega
    go_enter Tryd.func19, Tryd.ntmps19
    go_wp2
    go_ret2
    exact ⟨rfl, rfl⟩
  · have h2 : decide (size < 1) = false := by simp; omega
    have h3 : decide (size > 65536) = true := by simp; omega
    go_enter Tryd.func19, Tryd.ntmps19
    go_wp2
    go_ret2
    exact ⟨rfl, rfl⟩
end Go.Proofs.YtngmimhpeeahoaaDoor
