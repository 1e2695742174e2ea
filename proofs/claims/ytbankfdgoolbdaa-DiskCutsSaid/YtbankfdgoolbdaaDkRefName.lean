/- The reference's IsName walked. -/
import Derived.Test.YtbankfdgoolbdaaDkShown
namespace Go.Proofs.Ytbankfdgoolbdaa
open Go Go.RowKit Go.Lib
set_option linter.unusedVariables false

theorem okByte_nat (c : UInt8) : okByte c = (decide (97 ≤ c.toNat ∧ c.toNat ≤ 122) || decide (65 ≤ c.toNat ∧ c.toNat ≤ 90) || decide (48 ≤ c.toNat ∧ c.toNat ≤ 57) || decide (c.toNat = 45) || decide (c.toNat = 46)) := by
  have h := c.toNat_lt
  have e1 : ∀ k : UInt8, (k ≤ c) = (k.toNat ≤ c.toNat) := fun k => propext UInt8.le_iff_toNat_le
  have e2 : ∀ k : UInt8, (c ≤ k) = (c.toNat ≤ k.toNat) := fun k => propext UInt8.le_iff_toNat_le
  have e3 : ∀ k : UInt8, (c == k) = (c.toNat == k.toNat) := fun k => by
    rw [Bool.eq_iff_iff]; simp [UInt8.toNat_inj]
  unfold okByte
  simp only [e1, e2, e3]
  rw [Bool.eq_iff_iff]
  simp

theorem take_all (s : ByteArray) (i : Nat) (hi : i < s.size) : (s.data.toList.take (i + 1)).all okByte = ((s.data.toList.take i).all okByte && okByte (s[i]'hi)) := by
  have hl : i < s.data.toList.length := by simpa using hi
  rw [List.take_succ_eq_append_getElem hl, List.all_append]
  simp
  rfl

theorem all_cut (s : ByteArray) (i : Nat) (hi : i < s.size) (h : okByte (s[i]'hi) = false) : s.data.toList.all okByte = false := by
  rw [List.all_eq_false]
  exact ⟨s[i]'hi, by
    have : (s[i]'hi) = s.data.toList[i]'(by simpa using hi) := by simp; rfl
    rw [this]
    exact List.getElem_mem _, by simp [h]⟩

set_option maxHeartbeats 4000000 in
theorem refName_walk (s : ByteArray) (w : World) (hs : s.size ≤ maxLen) : Calls Try.prog 10 #[.string s] w fun e w' => e = .returned (.bool (isNm s.data.toList)) ∧ Kept [] w w' := by
  have hlen : s.data.toList.length = s.size := by simp
  have hN : Hid (isNm s.data.toList = (decide (1 ≤ s.size) && decide (s.size ≤ 16) && s.data.toList.all okByte)) := Lib.hid (by unfold isNm; rw [hlen])
  have hbig : s.size ≤ 9223372036854775807 := hs
  clear hlen hs
  go_enter Try.func10, Try.ntmps10
  go_wp2_with fail
  go_loopg [3] s.size (fun kk iv wr => ∃ i : Nat, i ≤ s.size ∧ kk = s.size - i ∧ iv = .int .i64 i ∧ (s.data.toList.take i).all okByte = true ∧ Kept [] w wr)
  case atStart => exact ⟨0, Nat.zero_le _, rfl, rfl, by simp, Kept.refl _ _⟩
  case round =>
    obtain ⟨i, hi, hkk, rfl, hall, hK⟩ := hrel
    have HKK := Lib.hid hkk
    have HK := Lib.hid hK
    have HAL := Lib.hid hall
    clear hkk hK hall
    by_cases hlt : i < s.size
    · have d1 : ((i : Int) < (s.size : Int)) ↔ True := by simp; omega
      have hta := Lib.hid (take_all s i hlt)
      have hb := (s[i]'hlt).toNat_lt
      have hok := Lib.hid (okByte_nat (s[i]'hlt))
      generalize hcq : (s[i]'hlt) = c at *
      generalize hnq : c.toNat = n at *
      by_cases h44 : n < 45
      · have hk : okByte c = false := by rw [hok.out]; simp; omega
        have c0 : (97 ≤ (n : Int)) ↔ False := by simp; omega
        have c1 : ((n : Int) ≤ 122) ↔ True := by simp; omega
        have c2 : (65 ≤ (n : Int)) ↔ False := by simp; omega
        have c3 : ((n : Int) ≤ 90) ↔ True := by simp; omega
        have c4 : (48 ≤ (n : Int)) ↔ False := by simp; omega
        have c5 : ((n : Int) ≤ 57) ↔ True := by simp; omega
        have c6 : ((n : Int) == 45) = false := by simp; omega
        have c7 : ((n : Int) == 46) = false := by simp; omega
        have HKB := Lib.hid hk
        clear h44 hk hb
        go_wp2_with fail
        go_ret
        refine ⟨?_, HK.out⟩
        rw [hN.out, all_cut s i hlt (hcq ▸ HKB.out)]
        simp
      by_cases h45 : n = 45
      · have hk : okByte c = true := by rw [hok.out]; simp; omega
        have c0 : (97 ≤ (n : Int)) ↔ False := by simp; omega
        have c1 : ((n : Int) ≤ 122) ↔ True := by simp; omega
        have c2 : (65 ≤ (n : Int)) ↔ False := by simp; omega
        have c3 : ((n : Int) ≤ 90) ↔ True := by simp; omega
        have c4 : (48 ≤ (n : Int)) ↔ False := by simp; omega
        have c5 : ((n : Int) ≤ 57) ↔ True := by simp; omega
        have c6 : ((n : Int) == 45) = true := by simp; omega
        have c7 : ((n : Int) == 46) = false := by simp; omega
        have HKB := Lib.hid hk
        clear h45 hk hb
        go_wp2_with fail
        go_roundg (s.size - (i + 1))
        case measure => rw [HKK.out]; omega
        case rel => exact ⟨i + 1, by omega, rfl, by go_num, by rw [hta.out, HAL.out, HKB.out]; rfl, HK.out⟩
      by_cases h46 : n = 46
      · have hk : okByte c = true := by rw [hok.out]; simp; omega
        have c0 : (97 ≤ (n : Int)) ↔ False := by simp; omega
        have c1 : ((n : Int) ≤ 122) ↔ True := by simp; omega
        have c2 : (65 ≤ (n : Int)) ↔ False := by simp; omega
        have c3 : ((n : Int) ≤ 90) ↔ True := by simp; omega
        have c4 : (48 ≤ (n : Int)) ↔ False := by simp; omega
        have c5 : ((n : Int) ≤ 57) ↔ True := by simp; omega
        have c6 : ((n : Int) == 45) = false := by simp; omega
        have c7 : ((n : Int) == 46) = true := by simp; omega
        have HKB := Lib.hid hk
        clear h46 hk hb
        go_wp2_with fail
        go_roundg (s.size - (i + 1))
        case measure => rw [HKK.out]; omega
        case rel => exact ⟨i + 1, by omega, rfl, by go_num, by rw [hta.out, HAL.out, HKB.out]; rfl, HK.out⟩
      by_cases h47 : n = 47
      · have hk : okByte c = false := by rw [hok.out]; simp; omega
        have c0 : (97 ≤ (n : Int)) ↔ False := by simp; omega
        have c1 : ((n : Int) ≤ 122) ↔ True := by simp; omega
        have c2 : (65 ≤ (n : Int)) ↔ False := by simp; omega
        have c3 : ((n : Int) ≤ 90) ↔ True := by simp; omega
        have c4 : (48 ≤ (n : Int)) ↔ False := by simp; omega
        have c5 : ((n : Int) ≤ 57) ↔ True := by simp; omega
        have c6 : ((n : Int) == 45) = false := by simp; omega
        have c7 : ((n : Int) == 46) = false := by simp; omega
        have HKB := Lib.hid hk
        clear h47 hk hb
        go_wp2_with fail
        go_ret
        refine ⟨?_, HK.out⟩
        rw [hN.out, all_cut s i hlt (hcq ▸ HKB.out)]
        simp
      by_cases h50 : 48 ≤ n ∧ n ≤ 57
      · have hk : okByte c = true := by rw [hok.out]; simp; omega
        have c0 : (97 ≤ (n : Int)) ↔ False := by simp; omega
        have c1 : ((n : Int) ≤ 122) ↔ True := by simp; omega
        have c2 : (65 ≤ (n : Int)) ↔ False := by simp; omega
        have c3 : ((n : Int) ≤ 90) ↔ True := by simp; omega
        have c4 : (48 ≤ (n : Int)) ↔ True := by simp; omega
        have c5 : ((n : Int) ≤ 57) ↔ True := by simp; omega
        have c6 : ((n : Int) == 45) = false := by simp; omega
        have c7 : ((n : Int) == 46) = false := by simp; omega
        have HKB := Lib.hid hk
        clear h50 hk hb
        go_wp2_with fail
        go_roundg (s.size - (i + 1))
        case measure => rw [HKK.out]; omega
        case rel => exact ⟨i + 1, by omega, rfl, by go_num, by rw [hta.out, HAL.out, HKB.out]; rfl, HK.out⟩
      by_cases h60 : 58 ≤ n ∧ n ≤ 64
      · have hk : okByte c = false := by rw [hok.out]; simp; omega
        have c0 : (97 ≤ (n : Int)) ↔ False := by simp; omega
        have c1 : ((n : Int) ≤ 122) ↔ True := by simp; omega
        have c2 : (65 ≤ (n : Int)) ↔ False := by simp; omega
        have c3 : ((n : Int) ≤ 90) ↔ True := by simp; omega
        have c4 : (48 ≤ (n : Int)) ↔ True := by simp; omega
        have c5 : ((n : Int) ≤ 57) ↔ False := by simp; omega
        have c6 : ((n : Int) == 45) = false := by simp; omega
        have c7 : ((n : Int) == 46) = false := by simp; omega
        have HKB := Lib.hid hk
        clear h60 hk hb
        go_wp2_with fail
        go_ret
        refine ⟨?_, HK.out⟩
        rw [hN.out, all_cut s i hlt (hcq ▸ HKB.out)]
        simp
      by_cases h70 : 65 ≤ n ∧ n ≤ 90
      · have hk : okByte c = true := by rw [hok.out]; simp; omega
        have c0 : (97 ≤ (n : Int)) ↔ False := by simp; omega
        have c1 : ((n : Int) ≤ 122) ↔ True := by simp; omega
        have c2 : (65 ≤ (n : Int)) ↔ True := by simp; omega
        have c3 : ((n : Int) ≤ 90) ↔ True := by simp; omega
        have c4 : (48 ≤ (n : Int)) ↔ True := by simp; omega
        have c5 : ((n : Int) ≤ 57) ↔ False := by simp; omega
        have c6 : ((n : Int) == 45) = false := by simp; omega
        have c7 : ((n : Int) == 46) = false := by simp; omega
        have HKB := Lib.hid hk
        clear h70 hk hb
        go_wp2_with fail
        go_roundg (s.size - (i + 1))
        case measure => rw [HKK.out]; omega
        case rel => exact ⟨i + 1, by omega, rfl, by go_num, by rw [hta.out, HAL.out, HKB.out]; rfl, HK.out⟩
      by_cases h93 : 91 ≤ n ∧ n ≤ 96
      · have hk : okByte c = false := by rw [hok.out]; simp; omega
        have c0 : (97 ≤ (n : Int)) ↔ False := by simp; omega
        have c1 : ((n : Int) ≤ 122) ↔ True := by simp; omega
        have c2 : (65 ≤ (n : Int)) ↔ True := by simp; omega
        have c3 : ((n : Int) ≤ 90) ↔ False := by simp; omega
        have c4 : (48 ≤ (n : Int)) ↔ True := by simp; omega
        have c5 : ((n : Int) ≤ 57) ↔ False := by simp; omega
        have c6 : ((n : Int) == 45) = false := by simp; omega
        have c7 : ((n : Int) == 46) = false := by simp; omega
        have HKB := Lib.hid hk
        clear h93 hk hb
        go_wp2_with fail
        go_ret
        refine ⟨?_, HK.out⟩
        rw [hN.out, all_cut s i hlt (hcq ▸ HKB.out)]
        simp
      by_cases h100 : 97 ≤ n ∧ n ≤ 122
      · have hk : okByte c = true := by rw [hok.out]; simp; omega
        have c0 : (97 ≤ (n : Int)) ↔ True := by simp; omega
        have c1 : ((n : Int) ≤ 122) ↔ True := by simp; omega
        have c2 : (65 ≤ (n : Int)) ↔ True := by simp; omega
        have c3 : ((n : Int) ≤ 90) ↔ False := by simp; omega
        have c4 : (48 ≤ (n : Int)) ↔ True := by simp; omega
        have c5 : ((n : Int) ≤ 57) ↔ False := by simp; omega
        have c6 : ((n : Int) == 45) = false := by simp; omega
        have c7 : ((n : Int) == 46) = false := by simp; omega
        have HKB := Lib.hid hk
        clear h100 hk hb
        go_wp2_with fail
        go_roundg (s.size - (i + 1))
        case measure => rw [HKK.out]; omega
        case rel => exact ⟨i + 1, by omega, rfl, by go_num, by rw [hta.out, HAL.out, HKB.out]; rfl, HK.out⟩
      by_cases h123 : 123 ≤ n
      · have hk : okByte c = false := by rw [hok.out]; simp; omega
        have c0 : (97 ≤ (n : Int)) ↔ True := by simp; omega
        have c1 : ((n : Int) ≤ 122) ↔ False := by simp; omega
        have c2 : (65 ≤ (n : Int)) ↔ True := by simp; omega
        have c3 : ((n : Int) ≤ 90) ↔ False := by simp; omega
        have c4 : (48 ≤ (n : Int)) ↔ True := by simp; omega
        have c5 : ((n : Int) ≤ 57) ↔ False := by simp; omega
        have c6 : ((n : Int) == 45) = false := by simp; omega
        have c7 : ((n : Int) == 46) = false := by simp; omega
        have HKB := Lib.hid hk
        clear h123 hk hb
        go_wp2_with fail
        go_ret
        refine ⟨?_, HK.out⟩
        rw [hN.out, all_cut s i hlt (hcq ▸ HKB.out)]
        simp
      omega
    · have d1 : ((i : Int) < (s.size : Int)) ↔ False := by simp; omega
      obtain rfl : i = s.size := by omega
      have hfull : (s.data.toList.take s.size) = s.data.toList := List.take_of_length_le (by simp)
      rw [hfull] at HAL
      clear hfull
      by_cases h1 : 1 ≤ s.size
      · have d2 : ((1 : Int) ≤ (s.size : Int)) ↔ True := by simp; omega
        by_cases h2 : s.size ≤ 16
        · have d3 : ((s.size : Int) ≤ 16) ↔ True := by simp; omega
          have HF := Lib.hid (hN.out.trans (show _ = true by rw [HAL.out, decide_eq_true h1, decide_eq_true h2]; rfl))
          clear h1 h2
          go_wp2_with fail
          go_ret
          exact ⟨by rw [HF.out]; rfl, HK.out⟩
        · have d3 : ((s.size : Int) ≤ 16) ↔ False := by simp; omega
          have HF := Lib.hid (hN.out.trans (show _ = false by rw [decide_eq_false h2]; simp))
          clear h1 h2
          go_wp2_with fail
          go_ret
          exact ⟨by rw [HF.out]; rfl, HK.out⟩
      · have d2 : ((1 : Int) ≤ (s.size : Int)) ↔ False := by simp; omega
        have HF := Lib.hid (hN.out.trans (show _ = false by rw [decide_eq_false h1]; rfl))
        clear h1
        go_wp2_with fail
        go_ret
        exact ⟨by rw [HF.out]; rfl, HK.out⟩
end Go.Proofs.Ytbankfdgoolbdaa
