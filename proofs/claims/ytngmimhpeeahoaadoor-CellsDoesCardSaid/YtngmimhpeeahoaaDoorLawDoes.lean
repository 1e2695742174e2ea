/- The walk of CellsDoes. -/
import Derived.Test.YtngmimhpeeahoaaDoorLawShown
import Derived.Test.YtngmimhpeeahoaaDoorDoes
namespace Go.Proofs.YtngmimhpeeahoaaDoor
open Go Go.RowKit
set_option linter.unusedVariables false

set_option maxHeartbeats 4000000 in
set_option maxRecDepth 100000 in
theorem does_law_no (w : World) (hT : TabAt w) (size : Int) (v : Value) (h : size < 1 ∨ 65536 < size) :
    Calls Tryd.prog 7 #[.int .i64 size, v] w fun e w' => e = .returned (.bool true) ∧ Kept [] w w' := by
  have HT := Lib.hid hT
  have HS := Lib.hid h
  clear hT h
  go_enter Tryd.func7, Tryd.ntmps7
  go_wp2_with fail
  refine (shown_calls w HT.out).mono ?_
  rintro e w0 ⟨rfl, hk0⟩
  have HK0 := Lib.hid hk0
  clear hk0
  go_wp2_with fail
  refine (new_walk_no w0 size HS.out).mono ?_
  rintro e w1 ⟨rfl, rfl⟩
  go_wp2_with fail
  refine (rnew_walk_no w0 size HS.out).mono ?_
  rintro e w1 ⟨rfl, rfl⟩
  go_wp2_with fail
  go_ret
  exact ⟨rfl, HK0.out⟩

theorem TwoF.drewN {o w0 w b r S R} (h : TwoF o w0 w b r S R) (n : Nat) : TwoF o w0 (w.drewN n) b r S R := by
  obtain ⟨fp1, fp2, hA, hR, hd, h1, h2, k⟩ := h
  exact ⟨fp1, fp2, hA.kept ((Kept.refl [] w).drewN n) (by simp), hR.kept ((Kept.refl [] w).drewN n) (by simp), hd, h1, h2, k.drewN n⟩

theorem two_new {w0 w : World} (k : Kept [] w0 w) (size : Int) (h0 : 1 ≤ size) (h1 : size ≤ 65536) :
    Calls Tryd.prog 10 #[.int .i64 size] w fun e w1 => e = .returned (.tuple #[.pointer (some ⟨w.heap.size, 0, none⟩), .int .i64 0]) ∧
      Calls Tryd.prog 19 #[.int .i64 size] w1 fun e w2 => e = .returned (.tuple #[.pointer (some ⟨w1.heap.size, 0, none⟩), .int .i64 0]) ∧ Two w0 w2 w.heap.size w1.heap.size ⟨size.toNat, fun _ => none, 0⟩ ⟨size.toNat, fun _ => none, 0⟩ := by
  refine (new_arena w size h0 h1).mono ?_
  rintro e w1 ⟨rfl, hA, hk1⟩
  refine ⟨rfl, (ref_new w1 size h0 h1).mono ?_⟩
  rintro e w2 ⟨rfl, hR, hk2⟩
  have h1 := hA.fp_lt w.heap.size (by simp)
  refine ⟨rfl, [w.heap.size], [w1.heap.size], hA.kept hk2 (by simp), hR, by simp; omega, ?_, ?_, (k.tr hk1).tr hk2⟩
  · intro x hx
    have := k.size
    simp only [List.mem_singleton] at hx
    omega
  · intro x hx
    have := k.size
    simp only [List.mem_singleton] at hx
    omega

set_option maxHeartbeats 4000000 in
set_option maxRecDepth 100000 in
theorem does_law (w : World) (hT : TabAt w) (size : Int) (hs0 : 1 ≤ size) (hs1 : size ≤ 65536) (p : Option Addr) (n cap : Nat) (hz : n ≤ 140737488351232) (M K C A B : Nat → Int) (hr : ∀ i, i < n → -9223372036854775808 ≤ C i ∧ C i < 9223372036854775808)
    (hp : 0 < n → ∃ ab off, p = some ⟨ab, off, none⟩ ∧ ∀ i, i < n → w.cell? ⟨ab, off + i * 5, none⟩ = some (.int .i64 (M i)) ∧ w.cell? ⟨ab, off + i * 5 + 1, none⟩ = some (.int .i64 (K i)) ∧ w.cell? ⟨ab, off + i * 5 + 2, none⟩ = some (.int .i64 (C i)) ∧ w.cell? ⟨ab, off + i * 5 + 3, none⟩ = some (.int .u64 (A i)) ∧ w.cell? ⟨ab, off + i * 5 + 4, none⟩ = some (.int .u64 (B i))) :
    Calls Tryd.prog 7 #[.int .i64 size, .slice p n cap] w fun e w' => e = .returned (.bool true) ∧ Kept [] w w' := by
  have HT := Lib.hid hT
  have HP := Lib.hid hp
  have HR := Lib.hid hr
  have HS0 := Lib.hid hs0
  have HS1 := Lib.hid hs1
  clear hT hp hr hs0 hs1
  go_enter Tryd.func7, Tryd.ntmps7
  go_wp2_with fail
  refine (shown_calls w HT.out).mono ?_
  rintro e w0 ⟨rfl, hk0⟩
  have HK0 := Lib.hid hk0
  clear hk0
  go_wp2_with fail
  refine (two_new HK0.out size HS0.out HS1.out).mono ?_
  rintro e w1 ⟨rfl, hc⟩
  have HC := Lib.hid hc
  clear hc
  go_wp2_with fail
  refine (HC.out).mono ?_
  rintro e w2 ⟨rfl, hO⟩
  have HO := Lib.hid hO
  clear hO HC
  generalize w0.heap.size = b at *
  generalize w1.heap.size = r at *
  go_wp2_with fail
  go_loopg [10] n (fun k iv wr => ∃ (i : Nat) (S : Ar), i ≤ n ∧ k = n - i ∧ iv = .int .i64 i ∧ Two w wr b r S S)
  case atStart => exact ⟨0, _, Nat.zero_le _, rfl, rfl, HO.out⟩
  case round =>
    clear HO
    obtain ⟨i, S, hi, hk, rfl, hO⟩ := hrel
    have HO := Lib.hid hO
    have HKK := Lib.hid hk
    clear hO hk
    by_cases hlt : i < n
    · have hd : decide ((i : Int) < (n : Int)) = true := by simp; omega
      obtain ⟨ab, off, rfl, hcells⟩ := HP.out (by omega)
      have hci := hcells i hlt
      have c0 := HO.out.kept.cell hci.1 (by simp)
      have c1 := HO.out.kept.cell hci.2.1 (by simp)
      have c2 := HO.out.kept.cell hci.2.2.1 (by simp)
      have c3 := HO.out.kept.cell hci.2.2.2.1 (by simp)
      have c4 := HO.out.kept.cell hci.2.2.2.2 (by simp)
      clear hci hcells
      go_wp2_with fail
      refine (does_calls HO.out HT.out (M i) (K i) (C i) (A i) (B i) (HR.out i hlt)).mono ?_
      rintro e w5 ⟨rfl, S', hO⟩
      clear HO c0 c1 c2 c3 c4
      have HO := Lib.hid hO
      have hm := two_many hO
      clear hO
      have e1 : ((S'.steps : Int) != S'.steps) = false := by simp
      have e2 : ((cnt S'.get S'.size : Int) != (cnt S'.get S'.size : Int)) = false := by simp
      go_wp2_with fail
      go_quiet (first | (go_at_call 17; refine (two_used (HO.out.drewN _)).mono ?_; rintro e w' ⟨rfl, rfl⟩; exact ⟨rfl, _, rfl⟩) | (go_at_call 21; refine (two_rused (HO.out.drewN _)).mono ?_; rintro e w' ⟨rfl, rfl⟩; exact ⟨rfl, _, rfl⟩) | (go_at_call 22; refine (two_steps (HO.out.drewN _)).mono ?_; rintro e w' ⟨rfl, rfl⟩; exact ⟨rfl, _, rfl⟩))
      clear hm e1 e2
      go_wp2_with fail
      go_roundg (n - (i + 1))
      case measure => rw [HKK.out]; omega
      case rel => exact ⟨i + 1, _, by omega, rfl, by go_num, HO.out.drewN _⟩
    · have hd : decide ((i : Int) < (n : Int)) = false := by simp; omega
      go_wp2_with fail
      go_ret
      exact ⟨rfl, HO.out.kept⟩
end Go.Proofs.YtngmimhpeeahoaaDoor
