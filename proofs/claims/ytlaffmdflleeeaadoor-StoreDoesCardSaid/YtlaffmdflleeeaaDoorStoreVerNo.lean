/- The walk of Version, where the value is too long. -/
import Derived.Test.YtlaffmdflleeeaaDoorStoreSt
namespace Go.Proofs.YtlaffmdflleeeaaDoor
open Go Go.RowKit
set_option linter.unusedVariables false

set_option maxHeartbeats 1000000 in
set_option maxRecDepth 100000 in
theorem version_long (w : World) (b : Nat) (val : ByteArray) (bg nx : Int) (h : 64 < val.size) :
    Calls Tryd.prog 12 #[.pointer (some ⟨b, 0, none⟩), .string val, .int .u64 bg, .int .i64 nx] w fun e w' => e = .returned (.tuple #[.int .i64 0, .int .i64 111]) ∧ w' = w := by
  have d1 : decide ((val.size : Int) > 64) = true := by simp; omega
  have d1' : decide (val.size > 64) = true := by simp; omega
  go_enter Tryd.func12, Tryd.ntmps12
  go_wp2_with fail
  go_ret2
  exact ⟨rfl, rfl⟩
end Go.Proofs.YtlaffmdflleeeaaDoor
