/- The walks of the statements' own 'words' and 'lists' over rows that are the same. -/
import Derived.Test.YtfipoadgfebibaaDoorRunS
import Derived.Test.YtfipoadgfebibaaDoorRight
namespace Go.Proofs.YtfipoadgfebibaaDoor
open Go Go.RowKit
set_option linter.unusedVariables false

set_option maxHeartbeats 1000000 in
set_option maxRecDepth 100000 in
theorem words_same (w : World) (va vb : Value) (n : Nat) (x : Nat → Int) (ha : RowAt w va n (fun i => .int .u64 (x i))) (hb : RowAt w vb n (fun i => .int .u64 (x i))) (hn : n ≤ maxLen) :
    Calls Tryd.prog 13 #[va, vb] w fun e w' => e = .returned (.bool true) ∧ ∃ q, w' = w.drewN q := by
  obtain ⟨p, cap, rfl, hA⟩ := ha
  obtain ⟨q, qcap, rfl, hB⟩ := hb
  have HA := Lib.hid hA
  have HB := Lib.hid hB
  have HN := Lib.hid hn
  have h9 : n ≤ 9223372036854775807 := Nat.le_trans hn (by simp only [maxLen]; omega)
  clear hA hB hn
  go_enter Tryd.func13, Tryd.ntmps13
  go_wp2_with fail
  go_loopg [5] n (fun k iv wr => ∃ i : Nat, i ≤ n ∧ k = n - i ∧ iv = .int .i64 i ∧ ∃ q, wr = w.drewN q)
  case atStart => exact ⟨0, Nat.zero_le _, rfl, rfl, 0, rfl⟩
  case round =>
    obtain ⟨i, hi, hk, rfl, q0, hK⟩ := hrel
    have HKK := Lib.hid hk
    have HK := Lib.hid ((Kept.refl [] w).drewN q0)
    rw [← hK] at HK
    have HQ := Lib.hid hK
    clear hk hK
    by_cases hlt : i < n
    · have hd : decide ((i : Int) < (n : Int)) = true := by simp; omega
      have hd' : decide (i < n) = true := by simp; omega
      obtain ⟨b1, o1, rfl, _, hc1⟩ := HA.out (by omega)
      obtain ⟨b2, o2, rfl, _, hc2⟩ := HB.out (by omega)
      have c1 := HK.out.cell (hc1 i hlt) (by simp)
      have c2 := HK.out.cell (hc2 i hlt) (by simp)
      clear hc1 hc2
      go_wp2_with fail
      go_quiet (fail)
      go_wp2_with fail
      go_roundg (n - (i + 1))
      case measure => rw [HKK.out]; omega
      case rel => exact ⟨i + 1, by omega, rfl, by go_num, _, by rw [HQ.out, World.drewN_drewN]⟩
    · have hd : decide ((i : Int) < (n : Int)) = false := by simp; omega
      have hd' : decide (i < n) = false := by simp; omega
      go_wp2_with fail
      go_ret
      exact ⟨rfl, q0, HQ.out⟩

/-- A row of rows, as it is read. -/
def ListsAt (w : World) (v : Value) (n : Nat) (L : Nat → Nat) (x : Nat → Nat → Int) : Prop :=
  ∃ vs, RowAt w v n vs ∧ ∀ i, i < n → RowAt w (vs i) (L i) (fun k => .int .u64 (x i k)) ∧ L i ≤ maxLen

theorem ListsAt.kept {own : List Nat} {w w' : World} {v : Value} {n : Nat} {L : Nat → Nat} {x : Nat → Nat → Int} (h : ListsAt w v n L x) (k : Kept own w w') (hown : ∀ y ∈ own, w.heap.size ≤ y) : ListsAt w' v n L x := by
  obtain ⟨vs, h1, h2⟩ := h
  exact ⟨vs, h1.kept k hown, fun i hi => ⟨(h2 i hi).1.kept k hown, (h2 i hi).2⟩⟩

theorem RowAt.drewN {w : World} {v : Value} {n : Nat} {xs : Nat → Value} (h : RowAt w v n xs) (q : Nat) : RowAt (w.drewN q) v n xs := h.kept ((Kept.refl [] w).drewN q) (by simp)

theorem RowAt.slice {w : World} {v : Value} {n : Nat} {xs : Nat → Value} (h : RowAt w v n xs) : ∃ p cap, v = .slice p n cap := by
  obtain ⟨p, cap, rfl, _⟩ := h
  exact ⟨p, cap, rfl⟩

set_option maxHeartbeats 1000000 in
set_option maxRecDepth 100000 in
theorem lists_same (w : World) (va vb : Value) (n : Nat) (L : Nat → Nat) (x : Nat → Nat → Int) (ha : ListsAt w va n L x) (hb : ListsAt w vb n L x) (hn : n ≤ maxLen) :
    Calls Tryd.prog 12 #[va, vb] w fun e w' => e = .returned (.bool true) ∧ ∃ q, w' = w.drewN q := by
  obtain ⟨us, ⟨p, cap, rfl, hA⟩, hU⟩ := ha
  obtain ⟨vs, ⟨q, qcap, rfl, hB⟩, hV⟩ := hb
  have HA := Lib.hid hA
  have HB := Lib.hid hB
  have HU := Lib.hid hU
  have HV := Lib.hid hV
  have HN := Lib.hid hn
  have h9 : n ≤ 9223372036854775807 := Nat.le_trans hn (by simp only [maxLen]; omega)
  clear hA hB hn hU hV
  go_enter Tryd.func12, Tryd.ntmps12
  go_wp2_with fail
  go_loopg [5] n (fun k iv wr => ∃ i : Nat, i ≤ n ∧ k = n - i ∧ iv = .int .i64 i ∧ ∃ q, wr = w.drewN q)
  case atStart => exact ⟨0, Nat.zero_le _, rfl, rfl, 0, rfl⟩
  case round =>
    obtain ⟨i, hi, hk, rfl, q0, hK⟩ := hrel
    have HKK := Lib.hid hk
    have HK := Lib.hid ((Kept.refl [] w).drewN q0)
    rw [← hK] at HK
    have HQ := Lib.hid hK
    clear hk hK
    by_cases hlt : i < n
    · have hd : decide ((i : Int) < (n : Int)) = true := by simp; omega
      have hd' : decide (i < n) = true := by simp; omega
      obtain ⟨b1, o1, rfl, _, hc1⟩ := HA.out (by omega)
      obtain ⟨b2, o2, rfl, _, hc2⟩ := HB.out (by omega)
      have c1 := HK.out.cell (hc1 i hlt) (by simp)
      have c2 := HK.out.cell (hc2 i hlt) (by simp)
      have hu := (HU.out i hlt).1.kept HK.out (by simp)
      have hv := (HV.out i hlt).1.kept HK.out (by simp)
      have hl := (HV.out i hlt).2
      obtain ⟨pu, cu, eu⟩ := hu.slice
      obtain ⟨pv, cv, ev⟩ := hv.slice
      have HU2 := Lib.hid hu
      have HV2 := Lib.hid hv
      have HL := Lib.hid hl
      clear hc1 hc2 hu hv hl
      generalize hus : us i = u at *
      generalize hvs : vs i = v at *
      subst eu ev
      clear hus hvs
      go_wp2_with fail
      go_quiet ((go_at_call 13; exact Calls.quiet_of (words_same _ _ _ (L i) (x i) (HU2.out.drewN _) (HV2.out.drewN _) HL.out)))
      go_wp2_with fail
      go_roundg (n - (i + 1))
      case measure => rw [HKK.out]; omega
      case rel => exact ⟨i + 1, by omega, rfl, by go_num, _, by rw [HQ.out, World.drewN_drewN]⟩
    · have hd : decide ((i : Int) < (n : Int)) = false := by simp; omega
      have hd' : decide (i < n) = false := by simp; omega
      go_wp2_with fail
      go_ret
      exact ⟨rfl, q0, HQ.out⟩
end Go.Proofs.YtfipoadgfebibaaDoor
