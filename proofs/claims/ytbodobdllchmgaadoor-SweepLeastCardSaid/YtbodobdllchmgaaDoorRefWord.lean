/- The walks of what the reference asks of words, and of states. -/
import Derived.Test.YtbodobdllchmgaaDoorWord
import Derived.Laws.Bits64b
namespace Go.Proofs.YtbodobdllchmgaaDoor
open Go Go.RowKit
set_option linter.unusedVariables false

set_option maxHeartbeats 1000000 in
set_option maxRecDepth 100000 in
theorem rsplit_walk (W : World) (w : Int) (h0 : 0 ≤ w) (h1 : w < 18446744073709551616) :
    Calls Tryd.prog 80 #[.int .u64 w] W fun e W' => e = .returned (.tuple #[.int .i64 (wKind w), .int .i64 (wTime w), .int .i64 (wOwner w)]) ∧ W' = W := by
  go_enter Tryd.func80, Tryd.ntmps80
  by_cases c1 : w < 1099511627776
  · have d1 : decide (w < 1099511627776) = true := by simpa using c1
    have e1 : IntKind.i64.wrap w = w := by unfold IntKind.wrap; simp [IntKind.bits, IntKind.signed]; omega
    have k1 : wKind w = 1 := by unfold wKind; rw [if_pos c1]
    have k2 : wTime w = w := by unfold wTime; rw [if_pos (by omega)]
    have k3 : wOwner w = 0 := by unfold wOwner; rw [if_neg (by omega)]
    rw [k1, k2, k3]
    clear k1 k2 k3
    go_wp2_with fail
    go_ret3
    exact ⟨rfl, rfl⟩
  have d1 : decide (w < 1099511627776) = false := by simpa using c1
  by_cases c2 : w = 1099511627776
  · have k1 : wKind w = 2 := by unfold wKind; rw [if_neg c1, if_pos c2]
    have k2 : wTime w = 1099511627776 := by unfold wTime; rw [if_pos (by omega)]; exact c2
    have k3 : wOwner w = 0 := by unfold wOwner; rw [if_neg (by omega)]
    rw [k1, k2, k3]
    clear k1 k2 k3
    subst c2
    go_wp2_with fail
    go_ret3
    exact ⟨rfl, rfl⟩
  have d2 : decide (w = 1099511627776) = false := by simpa using c2
  have k2 : wTime w = 0 := by unfold wTime; rw [if_neg (by omega)]
  by_cases c3 : 9223372036854775808 < w ∧ w < 9223372036855824384
  · have d3 : decide (w > 9223372036854775808) = true := by simp; omega
    have d4 : decide (w - 9223372036854775808 < 1048576) = true := by simp; omega
    have e1 : IntKind.u64.wrap (w - 9223372036854775808) = w - 9223372036854775808 := by unfold IntKind.wrap; simp [IntKind.bits, IntKind.signed]; omega
    have e2 : IntKind.i64.wrap (w - 9223372036854775808) = w - 9223372036854775808 := by unfold IntKind.wrap; simp [IntKind.bits, IntKind.signed]; omega
    have k1 : wKind w = 3 := by unfold wKind; rw [if_neg c1, if_neg c2, if_pos c3]
    have k3 : wOwner w = w - 9223372036854775808 := by unfold wOwner; rw [if_pos c3]
    rw [k1, k2, k3]
    clear k1 k2 k3
    go_wp2_with fail
    go_ret3
    exact ⟨rfl, rfl⟩
  · have k1 : wKind w = 0 := by unfold wKind; rw [if_neg c1, if_neg c2, if_neg c3]
    have k3 : wOwner w = 0 := by unfold wOwner; rw [if_neg c3]
    rw [k1, k2, k3]
    clear k1 k2 k3
    by_cases c4 : 9223372036854775808 < w
    · have d3 : decide (w > 9223372036854775808) = true := by simp; omega
      have d4 : decide (w - 9223372036854775808 < 1048576) = false := by simp; omega
      have e1 : IntKind.u64.wrap (w - 9223372036854775808) = w - 9223372036854775808 := by unfold IntKind.wrap; simp [IntKind.bits, IntKind.signed]; omega
      go_wp2_with fail
      go_ret3
      exact ⟨rfl, rfl⟩
    · have d3 : decide (w > 9223372036854775808) = false := by simp; omega
      go_wp2_with fail
      go_ret3
      exact ⟨rfl, rfl⟩

set_option maxHeartbeats 1000000 in
set_option maxRecDepth 100000 in
theorem rparts_walk (W : World) (w : Int) (h0 : 0 ≤ w) (h1 : w < 18446744073709551616) :
    Calls Tryd.prog 58 #[.int .u64 w] W fun e W' => e = .returned (.tuple #[.int .i64 (wTime w), .int .i64 (wOwner w), .bool (wOk w)]) ∧ W' = W := by
  have hs := Lib.hid (rsplit_walk W w h0 h1)
  have hk := Lib.hid (wKind_ok w)
  go_enter Tryd.func58, Tryd.ntmps58
  go_wp2_with fail
  refine hs.out.mono ?_
  rintro e W' ⟨rfl, rfl⟩
  go_wp2_with fail
  go_ret3
  exact ⟨by rw [← hk.out]; simp; rfl, rfl⟩

set_option maxHeartbeats 1000000 in
set_option maxRecDepth 100000 in
theorem rbegins_walk (W : World) (w : Int) (h0 : 0 ≤ w) (h1 : w < 18446744073709551616) :
    Calls Tryd.prog 59 #[.int .u64 w] W fun e W' => e = .returned (.bool (wBegins w)) ∧ W' = W := by
  have hs := rparts_walk W w h0 h1
  unfold wBegins
  generalize wOk w = ok at *
  have hs := Lib.hid hs
  go_enter Tryd.func59, Tryd.ntmps59
  go_wp2_with fail
  refine hs.out.mono ?_
  rintro e W' ⟨rfl, rfl⟩
  cases ok
  · go_wp2_with fail
    go_ret
    exact ⟨rfl, rfl⟩
  · by_cases hw : w = 1099511627776
    · subst hw
      go_wp2_with fail
      go_ret
      exact ⟨rfl, rfl⟩
    · have e1 : decide (w = 1099511627776) = false := by simpa using hw
      have e2 : (w == 1099511627776) = false := by simpa using hw
      go_wp2_with fail
      go_ret
      exact ⟨by simp [hw], rfl⟩


/-- May a word be a state? -/
def uS (w : Int) : Int := w / 4611686018427387904
def uT (w : Int) : Int := w % 4611686018427387904
def uOk (w : Int) : Bool := decide (uT w < 1099511627776) && (decide (uS w = 1) || decide (uS w = 2) || decide (uT w = 0))

def sOk (s t : Int) : Bool := decide (t < 1099511627776) && (decide (s = 1) || decide (s = 2) || decide (t = 0))
theorem uOk_s (w : Int) : uOk w = sOk (uS w) (uT w) := rfl

theorem and62 (n : Nat) : n &&& 4611686018427387903 = n % 4611686018427387904 :=
  Nat.and_two_pow_sub_one_eq_mod n 62

theorem and_mod62 (w : Int) (h0 : 0 ≤ w) (h1 : w < 18446744073709551616) : Go.bits .and .u64 w 4611686018427387903 = w % 4611686018427387904 := by
  have h := bits_and_u64_nat w.toNat 4611686018427387903 (by omega) (by omega)
  rw [and62] at h
  have e2 : ((w.toNat : Nat) : Int) = w := by omega
  rw [e2] at h
  have e3 : ((w.toNat % 4611686018427387904 : Nat) : Int) = w % 4611686018427387904 := by omega
  exact h.trans e3

set_option maxHeartbeats 1000000 in
set_option maxRecDepth 100000 in
theorem istime_walk (W : World) (t : Int) :
    Calls Tryd.prog 65 #[.int .i64 t] W fun e W' => e = .returned (.bool (decide (0 ≤ t) && decide (t < 1099511627776))) ∧ W' = W := by
  go_enter Tryd.func65, Tryd.ntmps65
  by_cases c1 : 0 ≤ t
  · have d1 : decide (t ≥ 0) = true := by simpa using c1
    have d2 : decide (0 ≤ t) = true := by simpa using c1
    rw [d2]
    go_wp2_with fail
    go_ret
    exact ⟨rfl, rfl⟩
  · have d1 : decide (t ≥ 0) = false := by simpa using c1
    have d2 : decide (0 ≤ t) = false := by simpa using c1
    rw [d2]
    go_wp2_with fail
    go_ret
    exact ⟨rfl, rfl⟩

set_option maxHeartbeats 1000000 in
set_option maxRecDepth 100000 in
theorem statew_walk (W : World) (s t : Int) (h0 : 0 ≤ s) (h1 : s ≤ 3) (h2 : 0 ≤ t) (h3 : t < 4611686018427387904) :
    Calls Tryd.prog 81 #[.int .i64 s, .int .i64 t] W fun e W' => ∃ x, e = .returned (.tuple #[.int .u64 x, .int .i64 (if sOk s t = true then 0 else 50)]) ∧ W' = W := by
  have HT := Lib.hid (istime_walk W t)
  have b0 : decide (0 ≤ t) = true := by simpa using h2
  rw [b0] at HT
  go_enter Tryd.func81, Tryd.ntmps81
  have a0 : decide (t ≥ 0) = true := by simpa using h2
  have a1 : decide (t < 0) = false := by simpa using h2
  by_cases c1 : t < 1099511627776
  · have d1 : decide (t < 1099511627776) = true := by simpa using c1
    rw [d1] at HT
    have d2 : decide (t ≥ 1099511627776) = false := by simpa using c1
    have e1 : IntKind.u64.wrap t = t := by unfold IntKind.wrap; simp [IntKind.bits, IntKind.signed]; omega
    by_cases c2 : t = 0
    · subst c2
      rcases (by omega : s = 0 ∨ s = 1 ∨ s = 2 ∨ s = 3) with rfl | rfl | rfl | rfl
      all_goals (
        first | rw [show sOk 0 0 = true from rfl] | rw [show sOk 1 0 = true from rfl] | rw [show sOk 2 0 = true from rfl] | rw [show sOk 3 0 = true from rfl]
        go_wp2_with fail
        first
          | (refine HT.out.mono ?_
             rintro e W' ⟨rfl, rfl⟩
             go_wp2_with fail
             go_ret2
             exact ⟨⟨_, rfl⟩, rfl⟩)
          | (go_ret2
             exact ⟨⟨_, rfl⟩, rfl⟩))
    · have f1 : decide (t = 0) = false := by simpa using c2
      have f2 : (t == 0) = false := by simpa using c2
      have f3 : (t != 0) = true := by simpa using c2
      rcases (by omega : s = 0 ∨ s = 1 ∨ s = 2 ∨ s = 3) with rfl | rfl | rfl | rfl
      all_goals (
        first | rw [show sOk 0 t = false by simp [sOk, c2]] | rw [show sOk 1 t = true by simp [sOk, c1]] | rw [show sOk 2 t = true by simp [sOk, c1]] | rw [show sOk 3 t = false by simp [sOk, c2]]
        go_wp2_with fail
        first
          | (refine HT.out.mono ?_
             rintro e W' ⟨rfl, rfl⟩
             go_wp2_with fail
             go_ret2
             exact ⟨⟨_, rfl⟩, rfl⟩)
          | (go_ret2
             exact ⟨⟨_, rfl⟩, rfl⟩))
  · have d1 : decide (t < 1099511627776) = false := by simpa using c1
    rw [d1] at HT
    have d2 : decide (t ≥ 1099511627776) = true := by simpa using c1
    have f1 : decide (t = 0) = false := by simp; omega
    have f2 : (t == 0) = false := by simp; omega
    have f3 : (t != 0) = true := by simp; omega
    rw [show sOk s t = false by unfold sOk; rw [d1]; rfl]
    rcases (by omega : s = 0 ∨ s = 1 ∨ s = 2 ∨ s = 3) with rfl | rfl | rfl | rfl
    all_goals (
      go_wp2_with fail
      first
        | (refine HT.out.mono ?_
           rintro e W' ⟨rfl, rfl⟩
           go_wp2_with fail
           go_ret2
           exact ⟨⟨_, rfl⟩, rfl⟩)
        | (go_ret2
           exact ⟨⟨_, rfl⟩, rfl⟩))

set_option maxHeartbeats 1000000 in
set_option maxRecDepth 100000 in
theorem unstate_walk (W : World) (w : Int) (h0 : 0 ≤ w) (h1 : w < 18446744073709551616) :
    Calls Tryd.prog 66 #[.int .u64 w] W fun e W' => ∃ a b, e = .returned (.tuple #[.int .i64 a, .int .i64 b, .bool (uOk w)]) ∧ W' = W := by
  have hs := statew_walk W (w / 4611686018427387904) (w % 4611686018427387904) (by omega) (by omega) (by omega) (by omega)
  rw [uOk_s]
  unfold uS uT
  have hand := and_mod62 w h0 h1
  have hw9 : wrap64 (w % 4611686018427387904) = w % 4611686018427387904 := by unfold wrap64; omega
  generalize sOk (w / 4611686018427387904) (w % 4611686018427387904) = ok at hs ⊢
  have HS := Lib.hid hs
  clear hs
  go_enter Tryd.func66, Tryd.ntmps66
  go_wp2_with fail
  refine HS.out.mono ?_
  rintro e W' ⟨x, rfl, rfl⟩
  cases ok
  · go_wp2_with fail
    go_ret3
    exact ⟨_, _, rfl, rfl⟩
  · go_wp2_with fail
    go_ret3
    exact ⟨_, _, rfl, rfl⟩

end Go.Proofs.YtbodobdllchmgaaDoor
