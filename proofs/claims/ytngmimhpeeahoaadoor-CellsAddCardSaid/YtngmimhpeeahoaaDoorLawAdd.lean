/- The walk of CellsAdd. -/
import Derived.Test.YtngmimhpeeahoaaDoorLawShown
import Derived.Test.YtngmimhpeeahoaaDoorLawAddPlain
namespace Go.Proofs.YtngmimhpeeahoaaDoor
open Go Go.RowKit
set_option linter.unusedVariables false

set_option maxHeartbeats 4000000 in
set_option maxRecDepth 100000 in
theorem add_walk_some (w : World) (hT : TabAt w) (ab off cap : Nat) (zs : List Int) (hz : zs.length ≤ 140737488351232) (hcells : ∀ i, i < zs.length → w.cell? ⟨ab, off + i, none⟩ = some (.int .u64 (zs.getD i 0))) (n : Nat) (hn : n = zs.length) :
    Calls Tryd.prog 3 #[.slice (some ⟨ab, off, none⟩) n cap] w fun e w' => e = .returned (.bool true) ∧ Kept [] w w' := by
  have HT := Lib.hid hT
  have HC := Lib.hid hcells
  have HN := Lib.hid hn
  have hnz : n ≤ 140737488351232 := by omega
  clear hT hcells hn
  go_enter Tryd.func3, Tryd.ntmps3
  go_wp2_with fail
  refine (shown_calls w HT.out).mono ?_
  rintro e w0 ⟨rfl, hk0⟩
  have HK0 := Lib.hid hk0
  clear hk0
  go_wp2_with fail
  refine (own_new HK0.out 2 (by omega) (by omega)).mono ?_
  rintro e w1 ⟨b, rfl, hO⟩
  have HO := Lib.hid hO
  clear hO
  go_wp2_with fail
  refine (own_alloc HO.out HT.out 0 (by decide) rfl (by omega)).mono ?_
  rintro e w2 ⟨rfl, hO⟩
  clear HO
  have HO := Lib.hid hO
  clear hO
  go_wp2_with fail
  refine (own_alloc HO.out HT.out 1 (by decide) rfl (by intro d hd; obtain rfl : d = 0 := by omega
                                                        rfl)).mono ?_
  rintro e w3 ⟨rfl, hO⟩
  clear HO
  have HO := Lib.hid hO
  clear hO
  go_wp2_with fail
  go_loopg [10, 11] n (fun k s iv wr => ∃ (i : Nat) (S : Ar), i ≤ n ∧ k = n - i ∧ s = .int .u64 (sum64 (zs.take i)) ∧ iv = .int .i64 i ∧ Own w wr b S ∧ S.get 0 = some (sum64 (zs.take i)) ∧ S.get 1 = some (sum64 (zs.reverse.take i)))
  case atStart => exact ⟨0, _, Nat.zero_le _, rfl, rfl, rfl, HO.out, rfl, rfl⟩
  case round =>
    obtain ⟨i, S, hi, hk, rfl, rfl, hO, h0, h1⟩ := hrel
    clear HO
    have HO := Lib.hid hO
    have H0 := Lib.hid h0
    have H1 := Lib.hid h1
    have HKK := Lib.hid hk
    clear hO h0 h1 hk
    by_cases hlt : i < n
    · have hd : decide ((i : Int) < (n : Int)) = true := by simp; omega
      have c1 := HO.out.kept.cell (HC.out i (by rw [← HN.out]; exact hlt)) (by simp)
      have HS : Hid (sum64 (zs.take (i + 1)) = IntKind.u64.wrap (sum64 (zs.take i) + zs.getD i 0)) := Lib.hid (sum64_take zs i (by rw [← HN.out]; exact hlt))
      have HB : Hid (sum64 (zs.reverse.take (i + 1)) = IntKind.u64.wrap (sum64 (zs.reverse.take i) + zs.getD (n - 1 - i) 0)) := Lib.hid (by rw [HN.out]; exact sum64_back zs i (by rw [← HN.out]; exact hlt))
      go_wp2_with fail
      refine (own_add HO.out 0 _ _ H0.out).mono ?_
      rintro e w4 ⟨rfl, hO⟩
      clear HO
      have HO := Lib.hid hO
      clear hO
      have c2 := HO.out.kept.cell (HC.out (n - 1 - i) (by rw [← HN.out]; omega)) (by simp)
      go_wp2_with fail
      refine (own_add HO.out 1 _ _ (by exact H1.out)).mono ?_
      rintro e w5 ⟨rfl, hO⟩
      clear HO
      have HO := Lib.hid hO
      clear hO
      go_wp2_with fail
      go_roundg (n - (i + 1))
      case measure => rw [HKK.out]; omega
      case rel => exact ⟨i + 1, _, by omega, rfl, by rw [HS.out]; simp, by go_num, HO.out, by rw [HS.out]; simp [Ar.put, Ar.step], by rw [HB.out]; simp [Ar.put, Ar.step]⟩
    · have hd : decide ((i : Int) < (n : Int)) = false := by simp; omega
      have hin : i = n := by omega
      have h1' : S.get 1 = some (sum64 (zs.take i)) := by
        rw [H1.out, hin, HN.out, List.take_length, List.take_of_length_le (by simp), sum64_reverse]
      have H1' := Lib.hid h1'
      clear h1' hin
      generalize sum64 (zs.take i) = tot at *
      go_wp2_with fail
      refine (own_load HO.out 0 _ H0.out).mono ?_
      rintro e w4 ⟨rfl, hO⟩
      clear HO
      have HO := Lib.hid hO
      clear hO
      go_wp2_with fail
      refine (own_load HO.out 1 _ (by exact H1'.out)).mono ?_
      rintro e w5 ⟨rfl, hO⟩
      clear HO
      have HO := Lib.hid hO
      clear hO
      go_wp2_with fail
      go_ret
      exact ⟨rfl, HO.out.kept⟩

set_option maxHeartbeats 4000000 in
set_option maxRecDepth 100000 in
theorem add_walk_none (w : World) (hT : TabAt w) (p : Option Addr) (cap : Nat) :
    Calls Tryd.prog 3 #[.slice p 0 cap] w fun e w' => e = .returned (.bool true) ∧ Kept [] w w' := by
  have HT := Lib.hid hT
  clear hT
  go_enter Tryd.func3, Tryd.ntmps3
  go_wp2_with fail
  refine (shown_calls w HT.out).mono ?_
  rintro e w0 ⟨rfl, hk0⟩
  have HK0 := Lib.hid hk0
  clear hk0
  go_wp2_with fail
  refine (own_new HK0.out 2 (by omega) (by omega)).mono ?_
  rintro e w1 ⟨b, rfl, hO⟩
  have HO := Lib.hid hO
  clear hO
  go_wp2_with fail
  refine (own_alloc HO.out HT.out 0 (by decide) rfl (by omega)).mono ?_
  rintro e w2 ⟨rfl, hO⟩
  clear HO
  have HO := Lib.hid hO
  clear hO
  go_wp2_with fail
  refine (own_alloc HO.out HT.out 1 (by decide) rfl (by intro d hd; obtain rfl : d = 0 := by omega
                                                        rfl)).mono ?_
  rintro e w3 ⟨rfl, hO⟩
  clear HO
  have HO := Lib.hid hO
  clear hO
  go_wp2_with fail
  go_loopg [10, 11] 1 (fun k s iv wr => s = .int .u64 0 ∧ iv = .int .i64 0 ∧ ∃ S, Own w wr b S ∧ S.get 0 = some 0 ∧ S.get 1 = some 0)
  case atStart => exact ⟨rfl, rfl, _, HO.out, rfl, rfl⟩
  case round =>
    obtain ⟨rfl, rfl, S, hO, h0, h1⟩ := hrel
    clear HO
    have HO := Lib.hid hO
    have H0 := Lib.hid h0
    have H1 := Lib.hid h1
    clear hO h0 h1
    go_wp2_with fail
    refine (own_load HO.out 0 _ H0.out).mono ?_
    rintro e w4 ⟨rfl, hO⟩
    clear HO
    have HO := Lib.hid hO
    clear hO
    go_wp2_with fail
    refine (own_load HO.out 1 _ (by exact H1.out)).mono ?_
    rintro e w5 ⟨rfl, hO⟩
    clear HO
    have HO := Lib.hid hO
    clear hO
    go_wp2_with fail
    go_ret
    exact ⟨rfl, HO.out.kept⟩
end Go.Proofs.YtngmimhpeeahoaaDoor
