/- The walks of an arena's 'there' and 'step': what each answers, at every arena and every number. -/
import Derived.Test.YtpckpgdkfimapaaDoorCellsRep
import Derived.Test.YtpckpgdkfimapaaDoorProg
namespace Go.Proofs.YtpckpgdkfimapaaDoor
open Go Go.RowKit
set_option linter.unusedVariables false

theorem bit_test (x j : Nat) (hx : x < 18446744073709551616) : bits BinOp.and IntKind.u64 ((x : Int) / 2 ^ j) 1 = if x.testBit j then 1 else 0 := by
  have e : ((x : Int) / 2 ^ j) = ((x / 2 ^ j : Nat) : Int) := by simp
  have hlt : x / 2 ^ j < 18446744073709551616 := Nat.lt_of_le_of_lt (Nat.div_le_self _ _) hx
  rw [e]
  have := bits_and_u64_nat (x / 2 ^ j) 1 hlt (by omega)
  rw [Nat.and_one_is_mod] at this
  refine this.trans ?_
  rw [Nat.testBit_eq_decide_div_mod_eq]
  by_cases h : x / 2 ^ j % 2 = 1
  · simp [h]
  · have : x / 2 ^ j % 2 = 0 := by omega
    simp [this]

set_option maxHeartbeats 1000000 in
theorem there_neg {w b hv size hs ws low used steps} (h : ArRep w b hv size hs ws low used steps) (c : Int) (hc : c < 0) (hl : -9223372036854775808 ≤ c) :
    Calls Tryd.prog 40 #[.pointer (some ⟨b, 0, none⟩), .int .i64 c] w fun e w' => e = .returned (.int .i64 30) ∧ w = w' := by
  have h1 := h.c1
  clear h
  go_enter Tryd.func40, Tryd.ntmps40
  go_wp2
  go_ret
  exact ⟨rfl, rfl⟩

set_option maxHeartbeats 1000000 in
theorem there_nil (w : World) (b : Nat) (hc1 : w.cell? ⟨b, 1, none⟩ = some (.slice none 0 0)) (c : Int) (hc : 0 ≤ c) (hl : c < 9223372036854775808) :
    Calls Tryd.prog 40 #[.pointer (some ⟨b, 0, none⟩), .int .i64 c] w fun e w' => e = .returned (.int .i64 30) ∧ w = w' := by
  have h2 : ¬ (c < 0) := by omega
  have h3 : decide (c ≥ 0) = true := by simp; omega
  go_enter Tryd.func40, Tryd.ntmps40
  go_wp2
  go_ret
  exact ⟨rfl, rfl⟩

set_option maxHeartbeats 1000000 in
theorem there_past (w : World) (b : Nat) (a : Addr) (n cap : Nat) (hn : n ≤ 65536) (hc1 : w.cell? ⟨b, 1, none⟩ = some (.slice (some a) n cap)) (c : Int) (hc : (n : Int) ≤ c) (hl : c < 9223372036854775808) :
    Calls Tryd.prog 40 #[.pointer (some ⟨b, 0, none⟩), .int .i64 c] w fun e w' => e = .returned (.int .i64 30) ∧ w = w' := by
  have h2 : ¬ (c < 0) := by omega
  have h3 : decide (c ≥ (n : Int)) = true := by simp; omega
  go_enter Tryd.func40, Tryd.ntmps40
  go_wp2
  go_ret
  exact ⟨rfl, rfl⟩

set_option maxHeartbeats 1000000 in
set_option maxRecDepth 100000 in
theorem there_in (w : World) (b : Nat) (a : Addr) (n cap x : Nat) (hn : n ≤ 65536) (hc1 : w.cell? ⟨b, 1, none⟩ = some (.slice (some a) n cap)) (c : Nat) (hc : c < n)
    (hx : w.cell? ⟨b, 2 + c / 64, none⟩ = some (.int .u64 x)) (hx2 : x < 18446744073709551616) :
    Calls Tryd.prog 40 #[.pointer (some ⟨b, 0, none⟩), .int .i64 c] w fun e w' => e = .returned (.int .i64 (if x.testBit (c % 64) then 0 else 30)) ∧ w = w' := by
  have h2 : ¬ ((c : Int) < 0) := by omega
  have h3 : decide (n ≤ c) = false := by simp; omega
  have hb := bit_test x (c % 64) hx2
  clear hx2
  cases ht : x.testBit (c % 64)
  · rw [ht] at hb
    replace hb : bits BinOp.and IntKind.u64 ((x : Int) / 2 ^ (c % 64)) 1 = 0 := hb
    go_enter Tryd.func40, Tryd.ntmps40
    go_wp2
    go_ret
    exact ⟨rfl, rfl⟩
  · rw [ht] at hb
    replace hb : bits BinOp.and IntKind.u64 ((x : Int) / 2 ^ (c % 64)) 1 = 1 := hb
    go_enter Tryd.func40, Tryd.ntmps40
    go_wp2
    go_ret
    exact ⟨rfl, rfl⟩

/-- 'there': is a cell taken? -/
theorem there_calls {w b hv size hs ws low used steps} (h : ArRep w b hv size hs ws low used steps) (c : Int) (h0 : -9223372036854775808 ≤ c) (h1 : c < 9223372036854775808) :
    Calls Tryd.prog 40 #[.pointer (some ⟨b, 0, none⟩), .int .i64 c] w fun e w' => e = .returned (.int .i64 (if takenAt hs ws c then 0 else 30)) ∧ w = w' := by
  by_cases hn : c < 0
  · have : takenAt hs ws c = false := by unfold takenAt; simp; omega
    rw [this]
    exact there_neg h c hn h0
  have hc1 := h.c1
  rcases h.val with ⟨rfl, rfl⟩ | ⟨g, cap, rfl, hcap, hcap2, hne, hlt, hcells⟩
  · have : takenAt [] ws c = false := by unfold takenAt; simp; omega
    rw [this]
    exact there_nil w b hc1 c (by omega) h1
  · by_cases hp : (hs.length : Int) ≤ c
    · have : takenAt hs ws c = false := by unfold takenAt; simp; omega
      rw [this]
      exact there_past w b _ hs.length cap h.few hc1 c hp h1
    · obtain ⟨k, rfl⟩ := Int.eq_ofNat_of_zero_le (a := c) (by omega)
      have hf := h.few
      have := there_in w b _ hs.length cap (ws (k / 64)) h.few hc1 k (by omega) (h.c2 (by omega)) (h.word _)
      refine this.mono ?_
      rintro e w' ⟨rfl, rfl⟩
      refine ⟨?_, rfl⟩
      have e1 : takenAt hs ws (k : Int) = (ws (k / 64)).testBit (k % 64) := by
        unfold takenAt; simp; omega
      rw [e1]

end Go.Proofs.YtpckpgdkfimapaaDoor
