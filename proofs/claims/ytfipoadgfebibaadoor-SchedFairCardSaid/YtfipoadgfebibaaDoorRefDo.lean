/- The walks of the reference's Do and Free. -/
import Derived.Test.YtfipoadgfebibaaDoorRef
namespace Go.Proofs.YtfipoadgfebibaaDoor
open Go Go.RowKit
set_option linter.unusedVariables false

set_option maxHeartbeats 1000000 in
set_option maxRecDepth 100000 in
theorem rdo_load (w : World) (b n cap k g : Nat) (z x y many : Int) (hn : n ≤ 65536) (hb : b < w.heap.size) (hg : g < w.heap.size) (hgb : g ≠ b) (h1 : w.cell? ⟨b, 1, none⟩ = some (.slice (some ⟨g, 0, none⟩) n cap)) (h3 : w.cell? ⟨b, 3, none⟩ = some (.int .i64 many)) (hc : k < n) (ht : w.cell? ⟨g, k, none⟩ = some (.int .u64 z)) (hf : w.frozen? ⟨g, k, none⟩ = false) (hfb : ∀ i, w.frozen? ⟨b, i, none⟩ = false)
    (hth : Calls Tryd.prog 31 #[.pointer (some ⟨b, 0, none⟩), .int .i64 k] (w.alloc (.cells #[.int .i64 1, .int .i64 k, .int .u64 x, .int .u64 y] 38)) fun e w' => e = .returned (.bool true) ∧ (w.alloc (.cells #[.int .i64 1, .int .i64 k, .int .u64 x, .int .u64 y] 38)) = w') :
    Calls Tryd.prog 24 #[.pointer (some ⟨b, 0, none⟩), .agg #[.int .i64 1, .int .i64 k, .int .u64 x, .int .u64 y]] w fun e w' => e = .returned (.tuple #[.int .u64 (z), .int .i64 0]) ∧ ∃ n, w' = (((w.setCell ⟨b, 3, none⟩ (.int .i64 (wrap64 (many + 1)))).alloc (.cells #[.int .i64 1, .int .i64 k, .int .u64 x, .int .u64 y] 38)).drewN n) := by
  have HT := Lib.hid hth
  clear hth
  go_enter Tryd.func24, Tryd.ntmps24
  go_wp2_with (go_at_call 31; refine (HT.out).mono ?_; rintro e w' ⟨rfl, rfl⟩)
  have hin : 0 ≤ (k : Int) ∧ (k : Int) < (n : Int) := by omega
  go_quiet (fail)
  go_wp2
  go_ret2
  exact ⟨rfl, _, rfl⟩

set_option maxHeartbeats 1000000 in
set_option maxRecDepth 100000 in
theorem rdo_store (w : World) (b n cap k g : Nat) (z x y many : Int) (hn : n ≤ 65536) (hb : b < w.heap.size) (hg : g < w.heap.size) (hgb : g ≠ b) (h1 : w.cell? ⟨b, 1, none⟩ = some (.slice (some ⟨g, 0, none⟩) n cap)) (h3 : w.cell? ⟨b, 3, none⟩ = some (.int .i64 many)) (hc : k < n) (ht : w.cell? ⟨g, k, none⟩ = some (.int .u64 z)) (hf : w.frozen? ⟨g, k, none⟩ = false) (hfb : ∀ i, w.frozen? ⟨b, i, none⟩ = false)
    (hth : Calls Tryd.prog 31 #[.pointer (some ⟨b, 0, none⟩), .int .i64 k] (w.alloc (.cells #[.int .i64 2, .int .i64 k, .int .u64 x, .int .u64 y] 38)) fun e w' => e = .returned (.bool true) ∧ (w.alloc (.cells #[.int .i64 2, .int .i64 k, .int .u64 x, .int .u64 y] 38)) = w') :
    Calls Tryd.prog 24 #[.pointer (some ⟨b, 0, none⟩), .agg #[.int .i64 2, .int .i64 k, .int .u64 x, .int .u64 y]] w fun e w' => e = .returned (.tuple #[.int .u64 (0), .int .i64 0]) ∧ ∃ n, w' = ((((w.setCell ⟨b, 3, none⟩ (.int .i64 (wrap64 (many + 1)))).alloc (.cells #[.int .i64 2, .int .i64 k, .int .u64 x, .int .u64 y] 38)).drewN n).setCell ⟨g, k, none⟩ (.int .u64 (x))) := by
  have HT := Lib.hid hth
  clear hth
  go_enter Tryd.func24, Tryd.ntmps24
  go_wp2_with (go_at_call 31; refine (HT.out).mono ?_; rintro e w' ⟨rfl, rfl⟩)
  have hin : 0 ≤ (k : Int) ∧ (k : Int) < (n : Int) := by omega
  go_quiet (fail)
  go_wp2
  go_region
  go_wp2
  go_ret2
  exact ⟨rfl, _, rfl⟩

set_option maxHeartbeats 1000000 in
set_option maxRecDepth 100000 in
theorem rdo_cas (w : World) (b n cap k g : Nat) (z x y many : Int) (hn : n ≤ 65536) (hb : b < w.heap.size) (hg : g < w.heap.size) (hgb : g ≠ b) (h1 : w.cell? ⟨b, 1, none⟩ = some (.slice (some ⟨g, 0, none⟩) n cap)) (h3 : w.cell? ⟨b, 3, none⟩ = some (.int .i64 many)) (hc : k < n) (ht : w.cell? ⟨g, k, none⟩ = some (.int .u64 z)) (hf : w.frozen? ⟨g, k, none⟩ = false) (hfb : ∀ i, w.frozen? ⟨b, i, none⟩ = false) (hx : (z == x) = true) (hx2 : (z != x) = false)
    (hth : Calls Tryd.prog 31 #[.pointer (some ⟨b, 0, none⟩), .int .i64 k] (w.alloc (.cells #[.int .i64 3, .int .i64 k, .int .u64 x, .int .u64 y] 38)) fun e w' => e = .returned (.bool true) ∧ (w.alloc (.cells #[.int .i64 3, .int .i64 k, .int .u64 x, .int .u64 y] 38)) = w') :
    Calls Tryd.prog 24 #[.pointer (some ⟨b, 0, none⟩), .agg #[.int .i64 3, .int .i64 k, .int .u64 x, .int .u64 y]] w fun e w' => e = .returned (.tuple #[.int .u64 (1), .int .i64 0]) ∧ ∃ n, w' = ((((w.setCell ⟨b, 3, none⟩ (.int .i64 (wrap64 (many + 1)))).alloc (.cells #[.int .i64 3, .int .i64 k, .int .u64 x, .int .u64 y] 38)).drewN n).setCell ⟨g, k, none⟩ (.int .u64 (y))) := by
  have HT := Lib.hid hth
  clear hth
  go_enter Tryd.func24, Tryd.ntmps24
  go_wp2_with (go_at_call 31; refine (HT.out).mono ?_; rintro e w' ⟨rfl, rfl⟩)
  have hin : 0 ≤ (k : Int) ∧ (k : Int) < (n : Int) := by omega
  go_quiet (fail)
  go_wp2
  go_region
  go_wp2
  go_ret2
  exact ⟨rfl, _, rfl⟩

set_option maxHeartbeats 1000000 in
set_option maxRecDepth 100000 in
theorem rdo_cas_not (w : World) (b n cap k g : Nat) (z x y many : Int) (hn : n ≤ 65536) (hb : b < w.heap.size) (hg : g < w.heap.size) (hgb : g ≠ b) (h1 : w.cell? ⟨b, 1, none⟩ = some (.slice (some ⟨g, 0, none⟩) n cap)) (h3 : w.cell? ⟨b, 3, none⟩ = some (.int .i64 many)) (hc : k < n) (ht : w.cell? ⟨g, k, none⟩ = some (.int .u64 z)) (hf : w.frozen? ⟨g, k, none⟩ = false) (hfb : ∀ i, w.frozen? ⟨b, i, none⟩ = false) (hx : (z == x) = false) (hx2 : (z != x) = true)
    (hth : Calls Tryd.prog 31 #[.pointer (some ⟨b, 0, none⟩), .int .i64 k] (w.alloc (.cells #[.int .i64 3, .int .i64 k, .int .u64 x, .int .u64 y] 38)) fun e w' => e = .returned (.bool true) ∧ (w.alloc (.cells #[.int .i64 3, .int .i64 k, .int .u64 x, .int .u64 y] 38)) = w') :
    Calls Tryd.prog 24 #[.pointer (some ⟨b, 0, none⟩), .agg #[.int .i64 3, .int .i64 k, .int .u64 x, .int .u64 y]] w fun e w' => e = .returned (.tuple #[.int .u64 (0), .int .i64 0]) ∧ ∃ n, w' = (((w.setCell ⟨b, 3, none⟩ (.int .i64 (wrap64 (many + 1)))).alloc (.cells #[.int .i64 3, .int .i64 k, .int .u64 x, .int .u64 y] 38)).drewN n) := by
  have HT := Lib.hid hth
  clear hth
  go_enter Tryd.func24, Tryd.ntmps24
  go_wp2_with (go_at_call 31; refine (HT.out).mono ?_; rintro e w' ⟨rfl, rfl⟩)
  have hin : 0 ≤ (k : Int) ∧ (k : Int) < (n : Int) := by omega
  go_quiet (fail)
  go_wp2
  go_ret2
  exact ⟨rfl, _, rfl⟩

set_option maxHeartbeats 1000000 in
set_option maxRecDepth 100000 in
theorem rdo_add (w : World) (b n cap k g : Nat) (z x y many : Int) (hn : n ≤ 65536) (hb : b < w.heap.size) (hg : g < w.heap.size) (hgb : g ≠ b) (h1 : w.cell? ⟨b, 1, none⟩ = some (.slice (some ⟨g, 0, none⟩) n cap)) (h3 : w.cell? ⟨b, 3, none⟩ = some (.int .i64 many)) (hc : k < n) (ht : w.cell? ⟨g, k, none⟩ = some (.int .u64 z)) (hf : w.frozen? ⟨g, k, none⟩ = false) (hfb : ∀ i, w.frozen? ⟨b, i, none⟩ = false)
    (hth : Calls Tryd.prog 31 #[.pointer (some ⟨b, 0, none⟩), .int .i64 k] (w.alloc (.cells #[.int .i64 4, .int .i64 k, .int .u64 x, .int .u64 y] 38)) fun e w' => e = .returned (.bool true) ∧ (w.alloc (.cells #[.int .i64 4, .int .i64 k, .int .u64 x, .int .u64 y] 38)) = w') :
    Calls Tryd.prog 24 #[.pointer (some ⟨b, 0, none⟩), .agg #[.int .i64 4, .int .i64 k, .int .u64 x, .int .u64 y]] w fun e w' => e = .returned (.tuple #[.int .u64 (IntKind.u64.wrap (z + x)), .int .i64 0]) ∧ ∃ n, w' = ((((w.setCell ⟨b, 3, none⟩ (.int .i64 (wrap64 (many + 1)))).alloc (.cells #[.int .i64 4, .int .i64 k, .int .u64 x, .int .u64 y] 38)).drewN n).setCell ⟨g, k, none⟩ (.int .u64 (IntKind.u64.wrap (z + x)))) := by
  have HT := Lib.hid hth
  clear hth
  go_enter Tryd.func24, Tryd.ntmps24
  go_wp2_with (go_at_call 31; refine (HT.out).mono ?_; rintro e w' ⟨rfl, rfl⟩)
  have hin : 0 ≤ (k : Int) ∧ (k : Int) < (n : Int) := by omega
  go_quiet (fail)
  go_wp2
  go_region
  go_wp2
  go_ret2
  exact ⟨rfl, _, rfl⟩

set_option maxHeartbeats 1000000 in
theorem rdo_no (w : World) (b : Nat) (k c x y : Int) (hk1 : decide (k < 1) = false) (hk2 : decide (k > 4) = false)
    (hth : Calls Tryd.prog 31 #[.pointer (some ⟨b, 0, none⟩), .int .i64 c] (w.alloc (.cells #[.int .i64 k, .int .i64 c, .int .u64 x, .int .u64 y] 38)) fun e w' => e = .returned (.bool false) ∧ (w.alloc (.cells #[.int .i64 k, .int .i64 c, .int .u64 x, .int .u64 y] 38)) = w') :
    Calls Tryd.prog 24 #[.pointer (some ⟨b, 0, none⟩), .agg #[.int .i64 k, .int .i64 c, .int .u64 x, .int .u64 y]] w fun e w' => e = .returned (.tuple #[.int .u64 0, .int .i64 30]) ∧ w' = w.alloc (.cells #[.int .i64 k, .int .i64 c, .int .u64 x, .int .u64 y] 38) := by
  have HT := Lib.hid hth
  clear hth
  go_enter Tryd.func24, Tryd.ntmps24
  go_wp2_with (go_at_call 31; refine (HT.out).mono ?_; rintro e w' ⟨rfl, rfl⟩)
  go_ret2
  exact ⟨rfl, rfl⟩

set_option maxHeartbeats 1000000 in
theorem rdo_kind (w : World) (b : Nat) (k c x y : Int) (hk : k < 1 ∨ 4 < k) :
    Calls Tryd.prog 24 #[.pointer (some ⟨b, 0, none⟩), .agg #[.int .i64 k, .int .i64 c, .int .u64 x, .int .u64 y]] w fun e w' => e = .returned (.tuple #[.int .u64 0, .int .i64 2]) ∧ w' = w.alloc (.cells #[.int .i64 k, .int .i64 c, .int .u64 x, .int .u64 y] 38) := by
  rcases hk with hk | hk
  · have h1 : decide (k < 1) = true := by simp; omega
    go_enter Tryd.func24, Tryd.ntmps24
    go_wp2
    go_ret2
    exact ⟨rfl, rfl⟩
  · have h1 : decide (k < 1) = false := by simp; omega
    have h2 : decide (k > 4) = true := by simp; omega
    go_enter Tryd.func24, Tryd.ntmps24
    go_wp2
    go_ret2
    exact ⟨rfl, rfl⟩

end Go.Proofs.YtfipoadgfebibaaDoor
