/- The walks of SweepMarks and SweepLeast: true at all numbers, and nothing that was there has changed. -/
import Derived.Test.YtbodobdllchmgaaDoorSweepKeep
namespace Go.Proofs.YtbodobdllchmgaaDoor
open Go Go.RowKit
set_option linter.unusedVariables false

set_option maxHeartbeats 4000000 in
set_option maxRecDepth 100000 in
theorem marks_law (w : World) (hT : TabAt w) (now mark : Int) (p pb pe : Option Addr) (n cap nb ne cb ce : Nat) (z zb ze : Nat → Int) (hin : InRow w p n z) (hn : n ≤ 140737488351232 / 8) (hb : WRow w pb nb cb zb) (he : WRow w pe ne ce ze) :
    Calls Tryd.prog 4 #[.int .i64 now, .slice p n cap, .slice pb nb cb, .slice pe ne ce, .int .i64 mark] w fun e w' => e = .returned (.bool true) ∧ Kept [] w w' := by
  have HT := Lib.hid hT
  have HIN := Lib.hid hin
  have HB := Lib.hid hb
  have HE := Lib.hid he
  clear hT hin hb he
  go_enter Tryd.func4, Tryd.ntmps4
  go_wp2_with fail
  refine (shown_calls w HT.out).mono ?_
  rintro e w1 ⟨rfl, hk⟩
  have HK := Lib.hid hk
  have HM := Lib.hid (mark_walk w1 now p n cap z (inRow_kept HIN.out hk) hn)
  clear hk
  go_wp2_with fail
  refine HM.out.mono ?_
  rintro e w2 ⟨rfl, hk⟩
  have HK2 := Lib.hid (HK.out.tr hk)
  have HKP := Lib.hid (keep_walk w2 pb pe nb ne cb ce zb ze mark (HB.out.kept HK2.out) (HE.out.kept HK2.out) _ rfl)
  have HRM := Lib.hid (rmark_walk w2 now p n cap z (inRow_kept HIN.out HK2.out) hn)
  have HRK := Lib.hid (rkeep_walk w2 pb pe nb ne cb ce zb ze mark (HB.out.kept HK2.out) (HE.out.kept HK2.out) _ rfl)
  clear hk HM
  generalize keepF zb ze mark 0 (if ne < nb then ne else nb) = K at *
  generalize leastF now z n = M at *
  go_wp2_with fail
  refine HKP.out.mono ?_
  rintro e w3 ⟨rfl, rfl⟩
  go_wp2_with fail
  refine HRM.out.mono ?_
  rintro e w3 ⟨rfl, rfl⟩
  go_wp2_with fail
  refine HRK.out.mono ?_
  rintro e w3 ⟨rfl, rfl⟩
  go_wp2_with fail
  go_ret
  exact ⟨rfl, HK2.out⟩

theorem leastF_le (x : Int) (z : Nat → Int) (n : Nat) : leastF x z n ≤ x ∧ (∀ i, i < n → leastF x z n ≤ z i) ∧ (leastF x z n = x ∨ ∃ i, i < n ∧ leastF x z n = z i) := by
  induction n with
  | zero => exact ⟨Int.le_refl _, fun i hi => by omega, .inl rfl⟩
  | succ n ih =>
    obtain ⟨h1, h2, h3⟩ := ih
    have e : leastF x z (n + 1) = if z n < leastF x z n then z n else leastF x z n := rfl
    rw [e]
    by_cases hz : z n < leastF x z n
    · rw [if_pos hz]
      refine ⟨by omega, fun i hi => ?_, .inr ⟨n, by omega, rfl⟩⟩
      by_cases ei : i = n
      · subst ei; omega
      · have := h2 i (by omega); omega
    · rw [if_neg hz]
      refine ⟨h1, fun i hi => ?_, ?_⟩
      · by_cases ei : i = n
        · subst ei; omega
        · exact h2 i (by omega)
      · rcases h3 with h3 | ⟨i, hi, h3⟩
        · exact .inl h3
        · exact .inr ⟨i, by omega, h3⟩

set_option maxHeartbeats 4000000 in
set_option maxRecDepth 100000 in
theorem least_law (w : World) (hT : TabAt w) (now : Int) (p : Option Addr) (n cap : Nat) (z : Nat → Int) (hin : InRow w p n z) (hn : n ≤ 140737488351232 / 8) :
    Calls Tryd.prog 5 #[.int .i64 now, .slice p n cap] w fun e w' => e = .returned (.bool true) ∧ Kept [] w w' := by
  have HT := Lib.hid hT
  have HIN := Lib.hid hin
  clear hT hin
  go_enter Tryd.func5, Tryd.ntmps5
  go_wp2_with fail
  refine (shown_calls w HT.out).mono ?_
  rintro e w1 ⟨rfl, hk⟩
  have HK := Lib.hid hk
  have HM := Lib.hid (mark_walk w1 now p n cap z (inRow_kept HIN.out hk) hn)
  clear hk
  go_wp2_with fail
  refine HM.out.mono ?_
  rintro e w2 ⟨rfl, hk⟩
  have HK2 := Lib.hid (HK.out.tr hk)
  have HIN2 := Lib.hid (inRow_kept HIN.out HK2.out)
  obtain ⟨l1, l2, l3⟩ := leastF_le now z n
  have HL2 := Lib.hid l2
  have HL3 := Lib.hid l3
  clear hk HM l2 l3
  generalize leastF now z n = M at *
  have hM : decide (M ≤ now) = true := by simpa using l1
  obtain ⟨am, ham⟩ : ∃ am : Bool, am = decide (M = now) := ⟨_, rfl⟩
  have HAM := Lib.hid ham
  have hiff0 : am = true ↔ (M = now ∨ ∃ j, j < 0 ∧ M = z j) := by rw [ham]; simp
  have HI0 := Lib.hid hiff0
  have e1 : (M == now) = am := by rw [ham]; rfl
  have e2 : decide (M = now) = am := ham.symm
  clear ham hiff0
  go_wp2_with fail
  go_loopg [7, 8] n (fun k lv iv wr => ∃ (i : Nat) (a : Bool), i ≤ n ∧ k = n - i ∧ iv = .int .i64 i ∧ lv = .bool a ∧ (a = true ↔ (M = now ∨ ∃ j, j < i ∧ M = z j)) ∧ wr = w2)
  case atStart => exact ⟨0, _, Nat.zero_le _, rfl, rfl, rfl, HI0.out, rfl⟩
  case round =>
    obtain ⟨i, a, hi, hk, rfl, rfl, hiff, rfl⟩ := hrel
    have HKK := Lib.hid hk
    have HI := Lib.hid hiff
    clear hk hiff
    by_cases hlt : i < n
    · have d1 : decide ((i : Int) < (n : Int)) = true := by simp; omega
      have d1' : decide (i < n) = true := by simp; omega
      obtain ⟨b, off, rfl, _, hc⟩ := HIN2.out.2 (by omega)
      have c0 := hc i hlt
      clear hc
      have hg : decide (z i < M) = false := by have := HL2.out i hlt; simpa using this
      obtain ⟨bm, hbm⟩ : ∃ bm : Bool, bm = decide (M = z i) := ⟨_, rfl⟩
      have b1 : (M == z i) = bm := by rw [hbm]; rfl
      have b2 : decide (M = z i) = bm := hbm.symm
      have HBM := Lib.hid hbm
      clear hbm
      cases a
      · go_wp2_with fail
        go_roundg (n - (i + 1))
        case measure => rw [HKK.out]; omega
        case rel =>
          refine ⟨i + 1, bm, by omega, rfl, by go_num, rfl, ?_, rfl⟩
          rw [HBM.out]
          have hno : ¬ (M = now ∨ ∃ j, j < i ∧ M = z j) := fun h => by have := HI.out.2 h; simp at this
          constructor
          · intro h; exact .inr ⟨i, by omega, by simpa using h⟩
          · rintro (h | ⟨j, hj, h⟩)
            · exact absurd (.inl h) hno
            · by_cases ej : j = i
              · subst ej; simpa using h
              · exact absurd (.inr ⟨j, by omega, h⟩) hno
      · go_wp2_with fail
        go_roundg (n - (i + 1))
        case measure => rw [HKK.out]; omega
        case rel =>
          refine ⟨i + 1, true, by omega, rfl, by go_num, rfl, ?_, rfl⟩
          refine ⟨fun _ => ?_, fun _ => rfl⟩
          rcases HI.out.1 (by trivial) with h | ⟨j, hj, h⟩
          · exact .inl h
          · exact .inr ⟨j, by omega, h⟩
    · have d1 : decide ((i : Int) < (n : Int)) = false := by simp; omega
      have d1' : decide (i < n) = false := by simp; omega
      obtain rfl : i = n := by omega
      obtain rfl : a = true := HI.out.2 HL3.out
      go_wp2_with fail
      go_ret
      exact ⟨rfl, HK2.out⟩
end Go.Proofs.YtbodobdllchmgaaDoor
