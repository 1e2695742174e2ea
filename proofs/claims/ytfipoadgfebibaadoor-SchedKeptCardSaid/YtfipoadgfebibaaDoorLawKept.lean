/- The walk of SchedKept: true at all numbers. -/
import Derived.Test.YtfipoadgfebibaaDoorLawTurns
import Derived.Test.YtfipoadgfebibaaDoorPlainKept
namespace Go.Proofs.YtfipoadgfebibaaDoor
open Go Go.RowKit
set_option linter.unusedVariables false

set_option maxHeartbeats 16000000 in
set_option maxRecDepth 100000 in
theorem kept_law (w : World) (hTb : TabAt w) (a b c : Int) :
    Calls Tryd.prog 8 #[.int .i64 a, .int .i64 b, .int .i64 c] w fun e w' => e = .returned (.bool true) ∧ Kept [] w w' := by
  have HTb := Lib.hid hTb
  clear hTb
  go_enter Tryd.func8, Tryd.ntmps8
  go_wp2_with fail
  refine (shown_calls w HTb.out).mono ?_
  rintro e w1 ⟨rfl, hk⟩
  have HK := Lib.hid hk
  clear hk
  by_cases h1 : a < 1
  · have d1 : decide (a < 1) = true := by simpa using h1
    go_wp2_with fail
    go_ret
    exact ⟨rfl, HK.out⟩
  have d1 : decide (a < 1) = false := by simpa using h1
  by_cases h2 : 16 < a
  · have d2 : decide (a > 16) = true := by simpa using h2
    go_wp2_with fail
    go_ret
    exact ⟨rfl, HK.out⟩
  have d2 : decide (a > 16) = false := by simp; omega
  by_cases h3 : c < 0
  · have d3 : decide (c < 0) = true := by simpa using h3
    go_wp2_with fail
    go_ret
    exact ⟨rfl, HK.out⟩
  have d3 : decide (c < 0) = false := by simpa using h3
  by_cases h4 : 50 < c
  · have d4 : decide (c > 50) = true := by simpa using h4
    go_wp2_with fail
    go_ret
    exact ⟨rfl, HK.out⟩
  have d4 : decide (c > 50) = false := by simp; omega
  obtain ⟨n, rfl⟩ := Int.eq_ofNat_of_zero_le (a := a) (by omega)
  obtain ⟨r, rfl⟩ := Int.eq_ofNat_of_zero_le (a := c) (by omega)
  have hn : 1 ≤ n := by omega
  have hn16 : n ≤ 16 := by omega
  have hr50 : r ≤ 50 := by omega
  clear h1 h2 h3 h4
  go_wp2_with fail
  clear d1 d2 d3 d4
  obtain ⟨i0, hi0, hz0, hz1, hz2⟩ := info_parts info_int1
  go_loopg [8, 9] r (fun k pv iv wr => ∃ i : Nat, i ≤ r ∧ k = r - i ∧ iv = .int .i64 i ∧ Has [] w1 wr (.ints pv (RR n (i * n))))
  case atStart => exact ⟨0, Nat.zero_le _, rfl, rfl, by rw [Nat.zero_mul]; exact Has.nilInts _⟩
  case round =>
    obtain ⟨i, hi, hk, rfl, hX⟩ := hrel
    have HKK := Lib.hid hk
    have HX := Lib.hid hX
    have hin : i * n ≤ 50 * 16 := Nat.mul_le_mul (by omega) hn16
    clear hk hX
    by_cases hlt : i < r
    · have hd : decide ((i : Int) < (r : Int)) = true := by simp; omega
      have hd' : decide (i < r) = true := by simp; omega
      go_wp2_with fail
      go_loopg [8, 10] n (fun k pv jv wx => ∃ j : Nat, j ≤ n ∧ k = n - j ∧ jv = .int .i64 j ∧ Has [] w1 wx (.ints pv (RR n (i * n + j))))
      case atStart => exact ⟨0, Nat.zero_le _, rfl, rfl, HX.out⟩
      case round =>
        clear HX
        obtain ⟨j, hj, hk2, rfl, hX⟩ := hrel
        have HKJ := Lib.hid hk2
        have HX := Lib.hid hX
        clear hk2 hX
        by_cases hjn : j < n
        · have e1 : decide ((j : Int) < (n : Int)) = true := by simp; omega
          have e1' : decide (j < n) = true := by simp; omega
          have hlen := RR_len n (i * n + j)
          have HSN := Lib.hid (RR_snoc n i j hjn)
          generalize RR n (i * n + j) = Al at *
          have hl9 : Al.length ≤ 9000 := by omega
          have HROW := Lib.hid (ap_row HX.out)
          clear hlen
          go_wp2_with (at_builtin; refine wpList_append_new rfl (.tmp 39) (.tmp 41) 23 rfl 3 i0 (.int .i64 0) 1 8 Tryd.underlying23 hi0 hz0 hz1 hz2 rfl (by decide) _ _ _ rfl (HROW.out.alloc _) ⟨_, 0, none⟩ 1 1 [.int .i64 j] rfl rfl (cell_one _ _ _ _ (by simp)) (by simp [Value.oneCell']) (by simp only [maxLen]; omega) (by omega) ?_)
          intro v1 wa happ1
          have HXa := Lib.hid (Has.moreInts (l' := [(j : Int)]) _ HX.out happ1)
          clear happ1 HROW HX
          go_wp2_with fail
          go_roundg (n - (j + 1))
          case measure => rw [HKJ.out]; omega
          case rel => exact ⟨j + 1, by omega, rfl, by go_num, by rw [HSN.out]; exact HXa.out⟩
        · have e1 : decide ((j : Int) < (n : Int)) = false := by simp; omega
          have e1' : decide (j < n) = false := by simp; omega
          obtain rfl : j = n := by omega
          go_wp2_with fail
          go_roundg (r - (i + 1))
          case measure => rw [HKK.out]; omega
          case rel => exact ⟨i + 1, by omega, rfl, by go_num, by rw [Nat.succ_mul]; exact HX.out⟩
    · have hd : decide ((i : Int) < (r : Int)) = false := by simp; omega
      have hd' : decide (i < r) = false := by simp; omega
      obtain rfl : i = r := by omega
      have hpk := HX.out.picksAt
      have hint := HX.out.intsAt
      have hsm := HX.out.rowSmall
      obtain ⟨qq, qc, rfl⟩ := ap_ints HX.out
      have hlen := RR_len n (i * n)
      have HKw := Lib.hid (HK.out.tr HX.out.keeps)
      have hkept := fun T (hT : n ≤ T) => (kept_turns (r := i) hn hT i 0 (Nat.zero_le _) (by omega)).1
      rw [Nat.add_zero] at hkept
      have HKT := Lib.hid hkept
      rw [hlen] at hpk
      have HPK := Lib.hid hpk
      have HINT := Lib.hid hint
      clear hpk hint hkept HX
      by_cases hlow : b < 2 * (n : Int)
      · have g1 : decide (b < 2 * (n : Int)) = true := by simpa using hlow
        rw [hlen]
        go_wp2_with fail
        refine (pturns_no _ n b (i * n) qq qc (by omega) (fun h => by have := h.2.2.1; omega)).mono ?_
        rintro e w2 ⟨rfl, rfl⟩
        go_wp2_with fail
        go_ret
        exact ⟨rfl, HKw.out⟩
      have g1 : decide (b < 2 * (n : Int)) = false := by simpa using hlow
      by_cases hhigh : 1000 < b
      · have g2 : decide (b > 1000) = true := by simpa using hhigh
        rw [hlen]
        go_wp2_with fail
        refine (pturns_no _ n b (i * n) qq qc (by omega) (fun h => by have := h.2.2.2.1; omega)).mono ?_
        rintro e w2 ⟨rfl, rfl⟩
        go_wp2_with fail
        go_ret
        exact ⟨rfl, HKw.out⟩
      have g2 : decide (b > 1000) = false := by simp; omega
      obtain ⟨W, rfl⟩ := Int.eq_ofNat_of_zero_le (a := b) (by omega)
      obtain ⟨T, hWT⟩ : ∃ T, W = n + T := ⟨W - n, by omega⟩
      have hT : n ≤ T := by omega
      have hW1 : W ≤ 1000 := by omega
      have HWT := Lib.hid hWT
      clear hWT
      rw [hlen]
      go_wp2_with fail
      refine (pturns_yes _ n W T (i * n) _ qq qc HPK.out hn hn16 HWT.out hT hW1 (by omega)).mono ?_
      rintro e w2 ⟨lv, rfl, hA⟩
      rw [HKT.out T hT] at hA
      have HRA := Lib.hid hA.intsAt
      have HRB := Lib.hid (HINT.out.kept hA.keeps (by simp))
      have HK2 := Lib.hid (HKw.out.tr hA.keeps)
      rw [hlen] at HRA HRB
      clear hA
      go_wp2_with fail
      refine (ints_same w2 _ _ _ _ HRA.out HRB.out (by simp only [maxLen]; omega)).mono ?_
      rintro e w3 ⟨rfl, q3, rfl⟩
      go_wp2_with fail
      go_ret
      exact ⟨rfl, HK2.out.drewN _⟩
end Go.Proofs.YtfipoadgfebibaaDoor
