/- The walk of the statements' own 'ints' over rows that are the same. -/
import Derived.Test.YtlaffmdflleeeaaDoorStoreTake
namespace Go.Proofs.YtlaffmdflleeeaaDoor
open Go Go.RowKit
set_option linter.unusedVariables false

variable {o : List Nat} {w0 w : World} {A B C : Part}

theorem nums_rowAt {v : Value} {cs : List Nat} (h : Has o w0 w (.nums v cs)) : RowAt w v cs.length (fun i => .int .i64 ((cs.getD i 0 : Nat) : Int)) := by
  refine h.rowAt _ fun i hi => ?_
  rw [List.getElem?_map, List.getD_eq_getElem?_getD, List.getElem?_eq_getElem hi]
  rfl

set_option maxHeartbeats 1000000 in
set_option maxRecDepth 100000 in
theorem ints_same (w : World) (va vb : Value) (n : Nat) (x : Nat → Int) (ha : RowAt w va n (fun i => .int .i64 (x i))) (hb : RowAt w vb n (fun i => .int .i64 (x i))) (hn : n ≤ maxLen) :
    Calls Tryd.prog 21 #[va, vb] w fun e w' => e = .returned (.bool true) ∧ ∃ q, w' = w.drewN q := by
  obtain ⟨p, cap, rfl, hA⟩ := ha
  obtain ⟨q, qcap, rfl, hB⟩ := hb
  have HA := Lib.hid hA
  have HB := Lib.hid hB
  have HN := Lib.hid hn
  have h9 : n ≤ 9223372036854775807 := Nat.le_trans hn (by simp only [maxLen]; omega)
  clear hA hB hn
  go_enter Tryd.func21, Tryd.ntmps21
  go_wp2_with fail
  go_loopg [5] n (fun k iv wr => ∃ i : Nat, i ≤ n ∧ k = n - i ∧ iv = .int .i64 i ∧ ∃ q, wr = w.drewN q)
  case atStart => exact ⟨0, Nat.zero_le _, rfl, rfl, 0, rfl⟩
  case round =>
    obtain ⟨i, hi, hk, rfl, q0, hK⟩ := hrel
    have HKK := Lib.hid hk
    have HK := Lib.hid ((Kept.refl [] w).drewN q0)
    rw [← hK] at HK
    have HQ := Lib.hid hK
    clear hk hK
    by_cases hlt : i < n
    · have hd : decide ((i : Int) < (n : Int)) = true := by simp; omega
      have hd' : decide (i < n) = true := by simp; omega
      obtain ⟨b1, o1, rfl, _, hc1⟩ := HA.out (by omega)
      obtain ⟨b2, o2, rfl, _, hc2⟩ := HB.out (by omega)
      have c1 := HK.out.cell (hc1 i hlt) (by simp)
      have c2 := HK.out.cell (hc2 i hlt) (by simp)
      clear hc1 hc2
      go_wp2_with fail
      go_quiet (fail)
      go_wp2_with fail
      go_roundg (n - (i + 1))
      case measure => rw [HKK.out]; omega
      case rel => exact ⟨i + 1, by omega, rfl, by go_num, _, by rw [HQ.out, World.drewN_drewN]⟩
    · have hd : decide ((i : Int) < (n : Int)) = false := by simp; omega
      have hd' : decide (i < n) = false := by simp; omega
      go_wp2_with fail
      go_ret
      exact ⟨rfl, q0, HQ.out⟩
end Go.Proofs.YtlaffmdflleeeaaDoor
