/- The walks of what the store asks of words. -/
import Derived.Test.YtbodobdllchmgaaDoorOwn
namespace Go.Proofs.YtbodobdllchmgaaDoor
open Go Go.RowKit
set_option linter.unusedVariables false

/-- What kind of word it is: 1 a time, 2 never, 3 an owner's, 0 none. -/
def wKind (w : Int) : Int := if w < 1099511627776 then 1 else if w = 1099511627776 then 2 else if 9223372036854775808 < w ∧ w < 9223372036855824384 then 3 else 0
def wTime (w : Int) : Int := if w ≤ 1099511627776 then w else 0
def wOwner (w : Int) : Int := if 9223372036854775808 < w ∧ w < 9223372036855824384 then w - 9223372036854775808 else 0
def wOk (w : Int) : Bool := decide (w ≤ 1099511627776) || (decide (9223372036854775808 < w) && decide (w < 9223372036855824384))

set_option maxHeartbeats 1000000 in
set_option maxRecDepth 100000 in
theorem split_walk (W : World) (w : Int) (h0 : 0 ≤ w) (h1 : w < 18446744073709551616) :
    Calls Tryd.prog 64 #[.int .u64 w] W fun e W' => e = .returned (.tuple #[.int .i64 (wKind w), .int .i64 (wTime w), .int .i64 (wOwner w)]) ∧ W' = W := by
  go_enter Tryd.func64, Tryd.ntmps64
  by_cases c1 : w < 1099511627776
  · have d1 : decide (w < 1099511627776) = true := by simpa using c1
    have e1 : IntKind.i64.wrap w = w := by unfold IntKind.wrap; simp [IntKind.bits, IntKind.signed]; omega
    have k1 : wKind w = 1 := by unfold wKind; rw [if_pos c1]
    have k2 : wTime w = w := by unfold wTime; rw [if_pos (by omega)]
    have k3 : wOwner w = 0 := by unfold wOwner; rw [if_neg (by omega)]
    rw [k1, k2, k3]
    clear k1 k2 k3
    go_wp2_with fail
    go_ret3
    exact ⟨rfl, rfl⟩
  have d1 : decide (w < 1099511627776) = false := by simpa using c1
  by_cases c2 : w = 1099511627776
  · have k1 : wKind w = 2 := by unfold wKind; rw [if_neg c1, if_pos c2]
    have k2 : wTime w = 1099511627776 := by unfold wTime; rw [if_pos (by omega)]; exact c2
    have k3 : wOwner w = 0 := by unfold wOwner; rw [if_neg (by omega)]
    rw [k1, k2, k3]
    clear k1 k2 k3
    subst c2
    go_wp2_with fail
    go_ret3
    exact ⟨rfl, rfl⟩
  have d2 : decide (w = 1099511627776) = false := by simpa using c2
  have k2 : wTime w = 0 := by unfold wTime; rw [if_neg (by omega)]
  by_cases c3 : 9223372036854775808 < w ∧ w < 9223372036855824384
  · have d3 : decide (w > 9223372036854775808) = true := by simp; omega
    have d4 : decide (w < 9223372036855824384) = true := by simp; omega
    have e1 : IntKind.u64.wrap (w - 9223372036854775808) = w - 9223372036854775808 := by unfold IntKind.wrap; simp [IntKind.bits, IntKind.signed]; omega
    have e2 : IntKind.i64.wrap (w - 9223372036854775808) = w - 9223372036854775808 := by unfold IntKind.wrap; simp [IntKind.bits, IntKind.signed]; omega
    have k1 : wKind w = 3 := by unfold wKind; rw [if_neg c1, if_neg c2, if_pos c3]
    have k3 : wOwner w = w - 9223372036854775808 := by unfold wOwner; rw [if_pos c3]
    rw [k1, k2, k3]
    clear k1 k2 k3
    go_wp2_with fail
    go_ret3
    exact ⟨rfl, rfl⟩
  · have k1 : wKind w = 0 := by unfold wKind; rw [if_neg c1, if_neg c2, if_neg c3]
    have k3 : wOwner w = 0 := by unfold wOwner; rw [if_neg c3]
    rw [k1, k2, k3]
    clear k1 k2 k3
    by_cases c4 : 9223372036854775808 < w
    · have d3 : decide (w > 9223372036854775808) = true := by simp; omega
      have d4 : decide (w < 9223372036855824384) = false := by simp; omega
      go_wp2_with fail
      go_ret3
      exact ⟨rfl, rfl⟩
    · have d3 : decide (w > 9223372036854775808) = false := by simp; omega
      go_wp2_with fail
      go_ret3
      exact ⟨rfl, rfl⟩

theorem wKind_ok (w : Int) : decide (wKind w ≠ 0) = wOk w := by
  unfold wKind wOk
  by_cases c1 : w < 1099511627776
  · rw [if_pos c1]; simp; omega
  · rw [if_neg c1]
    by_cases c2 : w = 1099511627776
    · rw [if_pos c2]; simp; omega
    · rw [if_neg c2]
      by_cases c3 : 9223372036854775808 < w ∧ w < 9223372036855824384
      · rw [if_pos c3]; simp; omega
      · rw [if_neg c3]; simp; omega

set_option maxHeartbeats 1000000 in
set_option maxRecDepth 100000 in
theorem parts_walk (W : World) (w : Int) (h0 : 0 ≤ w) (h1 : w < 18446744073709551616) :
    Calls Tryd.prog 57 #[.int .u64 w] W fun e W' => e = .returned (.tuple #[.int .i64 (wTime w), .int .i64 (wOwner w), .bool (wOk w)]) ∧ W' = W := by
  have hs := Lib.hid (split_walk W w h0 h1)
  have hk := Lib.hid (wKind_ok w)
  go_enter Tryd.func57, Tryd.ntmps57
  go_wp2_with fail
  refine hs.out.mono ?_
  rintro e W' ⟨rfl, rfl⟩
  go_wp2_with fail
  go_ret3
  exact ⟨by rw [← hk.out]; simp; rfl, rfl⟩

/-- May a word be a begin? -/
def wBegins (w : Int) : Bool := wOk w && decide (w ≠ 1099511627776)

set_option maxHeartbeats 1000000 in
set_option maxRecDepth 100000 in
theorem begins_walk (W : World) (w : Int) (h0 : 0 ≤ w) (h1 : w < 18446744073709551616) :
    Calls Tryd.prog 52 #[.int .u64 w] W fun e W' => e = .returned (.bool (wBegins w)) ∧ W' = W := by
  have hs := parts_walk W w h0 h1
  unfold wBegins
  generalize wOk w = ok at *
  have hs := Lib.hid hs
  go_enter Tryd.func52, Tryd.ntmps52
  go_wp2_with fail
  refine hs.out.mono ?_
  rintro e W' ⟨rfl, rfl⟩
  cases ok
  · go_wp2_with fail
    go_ret
    exact ⟨rfl, rfl⟩
  · by_cases hw : w = 1099511627776
    · subst hw
      go_wp2_with fail
      go_ret
      exact ⟨rfl, rfl⟩
    · have e1 : decide (w = 1099511627776) = false := by simpa using hw
      have e2 : (w == 1099511627776) = false := by simpa using hw
      go_wp2_with fail
      go_ret
      exact ⟨by simp [hw], rfl⟩
end Go.Proofs.YtbodobdllchmgaaDoor
