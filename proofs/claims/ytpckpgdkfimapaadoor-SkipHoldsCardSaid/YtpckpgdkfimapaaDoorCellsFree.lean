/- The walk of an arena's Free. -/
import Derived.Test.YtpckpgdkfimapaaDoorCellsOps
namespace Go.Proofs.YtpckpgdkfimapaaDoor
open Go Go.RowKit
set_option linter.unusedVariables false

set_option maxHeartbeats 1000000 in
set_option maxRecDepth 100000 in
theorem free_walk (w : World) (b k x : Nat) (low used : Int) (hk : k < 65536) (hl0 : 0 ≤ low) (hl1 : low ≤ 1024) (hu0 : 1 ≤ used) (hu1 : used ≤ 65536)
    (hx : w.cell? ⟨b, 2 + k / 64, none⟩ = some (.int .u64 x)) (h3 : w.cell? ⟨b, 1026, none⟩ = some (.int .i64 low)) (h4 : w.cell? ⟨b, 1027, none⟩ = some (.int .i64 used))
    (hf : ∀ i, w.frozen? ⟨b, i, none⟩ = false)
    (ht : Calls Tryd.prog 40 #[.pointer (some ⟨b, 0, none⟩), .int .i64 k] w fun e w' => e = .returned (.int .i64 0) ∧ w = w') :
    Calls Tryd.prog 42 #[.pointer (some ⟨b, 0, none⟩), .int .i64 k] w fun e w' => e = .returned (.int .i64 0) ∧
      w' = (((w.setCell ⟨b, 2 + k / 64, none⟩ (.int .u64 (bits BinOp.andNot IntKind.u64 x (IntKind.u64.wrap (2 ^ (k % 64)))))).setCell ⟨b, 1026, none⟩ (.int .i64 (if (k : Int) / 64 < low then (k : Int) / 64 else low))).setCell ⟨b, 1027, none⟩ (.int .i64 (used - 1))).drew := by
  have Ht := Lib.hid ht
  clear ht
  have hq : k / 64 < 1024 := by omega
  by_cases hmin : (k : Int) / 64 < low
  all_goals
    go_enter Tryd.func42, Tryd.ntmps42
    go_wp2_with (go_at_call 40; refine (Ht.out).mono ?_; rintro e w' ⟨rfl, rfl⟩)
    go_region
    go_wp2
    go_ret
    exact ⟨rfl, rfl⟩

set_option maxHeartbeats 1000000 in
theorem free_walk_no (w : World) (b : Nat) (c : Int)
    (ht : Calls Tryd.prog 40 #[.pointer (some ⟨b, 0, none⟩), .int .i64 c] w fun e w' => e = .returned (.int .i64 30) ∧ w = w') :
    Calls Tryd.prog 42 #[.pointer (some ⟨b, 0, none⟩), .int .i64 c] w fun e w' => e = .returned (.int .i64 30) ∧ w = w' := by
  have Ht := Lib.hid ht
  clear ht
  go_enter Tryd.func42, Tryd.ntmps42
  go_wp2_with (go_at_call 40; refine (Ht.out).mono ?_; rintro e w' ⟨rfl, rfl⟩)
  go_ret
  exact ⟨rfl, rfl⟩
end Go.Proofs.YtpckpgdkfimapaaDoor
