/- The walk of StoreOnce: true at all owners, and nothing that was there has changed. -/
import Derived.Test.YtlaffmdflleeeaaDoorStoreShown
import Derived.Test.YtlaffmdflleeeaaDoorRowKit
namespace Go.Proofs.YtlaffmdflleeeaaDoor
open Go Go.RowKit
set_option linter.unusedVariables false

set_option maxHeartbeats 1000000 in
set_option maxRecDepth 100000 in
theorem owner_yes (W : World) (t : Int) (h0 : 1 ≤ t) (h1 : t < 1048576) :
    Calls Tryd.prog 13 #[.int .i64 t] W fun e W' => e = .returned (.tuple #[.int .u64 (9223372036854775808 + t), .int .i64 0]) ∧ W' = W := by
  have d1 : decide (t < 1) = false := by simp; omega
  have d2 : decide (t ≥ 1048576) = false := by simp; omega
  have e1 : IntKind.u64.wrap t = t := by unfold IntKind.wrap; simp [IntKind.bits, IntKind.signed]; omega
  have e2 : IntKind.u64.wrap (9223372036854775808 + t) = 9223372036854775808 + t := by unfold IntKind.wrap; simp [IntKind.bits, IntKind.signed]; omega
  go_enter Tryd.func13, Tryd.ntmps13
  go_wp2_with fail
  go_ret2
  exact ⟨rfl, rfl⟩

set_option maxHeartbeats 1000000 in
set_option maxRecDepth 100000 in
theorem owner_no (W : World) (t : Int) (h : t < 1 ∨ 1048576 ≤ t) :
    Calls Tryd.prog 13 #[.int .i64 t] W fun e W' => e = .returned (.tuple #[.int .u64 0, .int .i64 50]) ∧ W' = W := by
  go_enter Tryd.func13, Tryd.ntmps13
  by_cases h1 : t < 1
  · have d1 : decide (t < 1) = true := by simpa using h1
    go_wp2_with fail
    go_ret2
    exact ⟨rfl, rfl⟩
  · have d1 : decide (t < 1) = false := by simpa using h1
    have d2 : decide (t ≥ 1048576) = true := by simp; omega
    go_wp2_with fail
    go_ret2
    exact ⟨rfl, rfl⟩

set_option maxHeartbeats 8000000 in
set_option maxRecDepth 100000 in
theorem once_law (w : World) (hT : TabAt w) (n : Nat) (z : Nat → Int) (q : Option Addr) (qcap : Nat) (hn : n ≤ 140737488351232) (hp : 0 < n → ∃ b off, q = some ⟨b, off, none⟩ ∧ b < w.heap.size ∧ ∀ i, i < n → w.cell? ⟨b, off + i, none⟩ = some (.int .i64 (z i))) :
    Calls Tryd.prog 3 #[.slice q n qcap] w fun e w' => e = .returned (.bool true) ∧ Kept [] w w' := by
  have HT := Lib.hid hT
  have HP := Lib.hid hp
  clear hT hp
  go_enter Tryd.func3, Tryd.ntmps3
  go_wp2_with fail
  refine (shown_calls w HT.out).mono ?_
  rintro e w1 ⟨rfl, hk⟩
  have HK := Lib.hid hk
  clear hk
  go_wp2_with fail
  refine (new_both w w1 HK.out 10 (by omega) (by omega)).mono ?_
  rintro e w2 ⟨ab, rfl, hA⟩
  have HA := Lib.hid hA
  clear hA
  go_wp2_with fail
  refine (new_store (by omega) HA.out).mono ?_
  rintro e w3 ⟨b, rfl, hX⟩
  have HX := Lib.hid hX
  clear hX HA
  have HV := Lib.hid (show Calls Tryd.prog 12 #[.pointer (some ⟨b, 0, none⟩), .string ⟨#[]⟩, .int .u64 1, .int .i64 0] w3 fun e w' => e = .returned (.tuple #[.int .i64 1, .int .i64 0]) ∧ ∃ st, Has [] w w' (.store b ((newSt 10 0).addVer st ⟨#[]⟩ 1 0)) from version_first HX.out HT.out tab_nil (by show (0 : Nat) + 3 ≤ 10; omega) (by decide) (by omega) (by omega) (by decide) (by show 0 ≤ _; omega))
  go_wp2_with fail
  refine HV.out.mono ?_
  rintro e w4 ⟨rfl, st4, hX4⟩
  have HX4 := Lib.hid hX4
  clear hX4 HV HX
  go_wp2_with fail
  go_loopg [10, 11] n (fun k wv iv wr => ∃ (i : Nat) (won : Int) (A : ASt), i ≤ n ∧ k = n - i ∧ iv = .int .i64 i ∧ wv = .int .u64 won ∧ (won = 0 ∨ (9223372036854775808 < won ∧ won < 9223372036855824384)) ∧ A.at_ (.end_ 0) = some (if won = 0 then 1099511627776 else won) ∧ Has [] w wr (.store b A))
  case atStart => exact ⟨0, 0, _, Nat.zero_le _, rfl, rfl, rfl, .inl rfl, rfl, HX4.out⟩
  case round =>
    clear HX4
    obtain ⟨i, won, A, hi, hk, rfl, rfl, hwon, hat, hX⟩ := hrel
    have HKK := Lib.hid hk
    have HX := Lib.hid hX
    have HAT := Lib.hid hat
    have HW := Lib.hid hwon
    clear hk hX hat hwon
    by_cases hlt : i < n
    · have hd : decide ((i : Int) < (n : Int)) = true := by simp; omega
      have hd' : decide (i < n) = true := by simp; omega
      obtain ⟨qb, qoff, rfl, _, hc⟩ := HP.out (by omega)
      have c0 := HX.out.keeps.cell (hc i hlt) (by simp)
      clear hc
      generalize z i = t at *
      by_cases ht : t < 1 ∨ 1048576 ≤ t
      · have HO := Lib.hid (owner_no wr t ht)
        clear ht
        go_wp2_with fail
        refine HO.out.mono ?_
        rintro e w5 ⟨rfl, rfl⟩
        go_wp2_with fail
        go_roundg (n - (i + 1))
        case measure => rw [HKK.out]; omega
        case rel => exact ⟨i + 1, won, A, by omega, rfl, by go_num, rfl, HW.out, HAT.out, HX.out⟩
      · have HO := Lib.hid (owner_yes wr t (by omega) (by omega))
        obtain ⟨wd, hwd⟩ : ∃ wd, wd = 9223372036854775808 + t := ⟨_, rfl⟩
        rw [← hwd] at HO
        have hw1 : 9223372036854775808 < wd ∧ wd < 9223372036855824384 := by omega
        have hok : wOk wd = true := by unfold wOk; simp; omega
        have HOK := Lib.hid hok
        clear ht hok hwd
        by_cases hz : won = 0
        · have h0 := HAT.out
          rw [if_pos hz] at h0
          have HTK := Lib.hid (show Calls Tryd.prog 14 #[.pointer (some ⟨b, 0, none⟩), .int .i64 1, .int .u64 1099511627776, .int .u64 wd] wr fun e w' => e = .returned (.tuple #[.bool true, .int .i64 0]) ∧ Has [] w w' (.store b (A.step.set (.end_ 0) wd)) from takeEnd_yes HX.out 0 1099511627776 wd h0 (by omega) (by omega) HOK.out)
          have hat2 : (A.step.set (.end_ 0) wd).at_ (.end_ 0) = some (if wd = 0 then 1099511627776 else wd) := by
            rw [ASt.at_set, if_pos rfl, if_neg (by omega)]
            show (A.at_ (.end_ 0)).map _ = _
            rw [h0]; rfl
          have HA2 := Lib.hid hat2
          clear h0 hat2 HAT HW
          subst hz
          go_wp2_with fail
          refine HO.out.mono ?_
          rintro e w5 ⟨rfl, rfl⟩
          go_wp2_with fail
          refine HTK.out.mono ?_
          rintro e w6 ⟨rfl, hX6⟩
          have HX6 := Lib.hid hX6
          clear hX6 HTK HX
          go_wp2_with fail
          go_roundg (n - (i + 1))
          case measure => rw [HKK.out]; omega
          case rel => exact ⟨i + 1, wd, _, by omega, rfl, by go_num, rfl, .inr hw1, HA2.out, HX6.out⟩
        · have hwn := HW.out.resolve_left hz
          have h0 := HAT.out
          rw [if_neg hz] at h0
          have HTK := Lib.hid (show Calls Tryd.prog 14 #[.pointer (some ⟨b, 0, none⟩), .int .i64 1, .int .u64 1099511627776, .int .u64 wd] wr fun e w' => e = .returned (.tuple #[.bool false, .int .i64 0]) ∧ Has [] w w' (.store b A.step) from takeEnd_not HX.out 0 won 1099511627776 wd h0 (by omega) (by omega) (by omega) HOK.out)
          have f1 : decide (won = 0) = false := by simpa using hz
          have f2 : (won == 0) = false := by simpa using hz
          clear h0
          go_wp2_with fail
          refine HO.out.mono ?_
          rintro e w5 ⟨rfl, rfl⟩
          go_wp2_with fail
          refine HTK.out.mono ?_
          rintro e w6 ⟨rfl, hX6⟩
          have HX6 := Lib.hid hX6
          clear hX6 HTK HX
          go_wp2_with fail
          go_roundg (n - (i + 1))
          case measure => rw [HKK.out]; omega
          case rel => exact ⟨i + 1, won, A.step, by omega, rfl, by go_num, rfl, HW.out, HAT.out, HX6.out⟩
    · have hd : decide ((i : Int) < (n : Int)) = false := by simp; omega
      have hd' : decide (i < n) = false := by simp; omega
      by_cases hz : won = 0
      · have h0 := HAT.out
        rw [if_pos hz] at h0
        have HE := Lib.hid (show Calls Tryd.prog 15 #[.pointer (some ⟨b, 0, none⟩), .int .i64 1] wr fun e w' => e = .returned (.tuple #[.int .u64 1099511627776, .int .i64 0]) ∧ Has [] w w' (.store b A.step) from end_at HX.out 0 1099511627776 h0)
        clear h0 HAT HW
        subst hz
        go_wp2_with fail
        refine HE.out.mono ?_
        rintro e w6 ⟨rfl, hX6⟩
        have HK6 := Lib.hid hX6.keeps
        clear hX6
        go_wp2_with fail
        go_ret
        exact ⟨rfl, HK6.out⟩
      · have hwn := HW.out.resolve_left hz
        have h0 := HAT.out
        rw [if_neg hz] at h0
        have HE := Lib.hid (show Calls Tryd.prog 15 #[.pointer (some ⟨b, 0, none⟩), .int .i64 1] wr fun e w' => e = .returned (.tuple #[.int .u64 won, .int .i64 0]) ∧ Has [] w w' (.store b A.step) from end_at HX.out 0 won h0)
        have f1 : decide (won = 0) = false := by simpa using hz
        have f2 : (won == 0) = false := by simpa using hz
        have f3 : (won != 0) = true := by simpa using hz
        clear h0
        go_wp2_with fail
        refine HE.out.mono ?_
        rintro e w6 ⟨rfl, hX6⟩
        have HK6 := Lib.hid hX6.keeps
        clear hX6
        go_wp2_with fail
        go_ret
        exact ⟨rfl, HK6.out⟩
end Go.Proofs.YtlaffmdflleeeaaDoor
