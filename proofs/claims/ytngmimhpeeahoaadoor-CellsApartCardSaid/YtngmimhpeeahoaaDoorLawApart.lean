/- The walk of CellsApart. -/
import Derived.Test.YtngmimhpeeahoaaDoorLawShown
import Derived.Test.YtngmimhpeeahoaaDoorDo
namespace Go.Proofs.YtngmimhpeeahoaaDoor
open Go Go.RowKit
set_option linter.unusedVariables false

theorem zero_op4 (w : World) : (zeroValue 45).run Tryd.prog w = .ok (.agg #[.int .i64 0, .int .i64 0, .int .u64 0, .int .u64 0]) w := by kernel_rfl

/-- Another cell stays as it is. -/
theorem doS_other (S : Ar) (k x y v : Int) (h0 : S.get 0 = some v) (h : S.size = 3) (hc : cnt S.get 3 = 2) (h1 : (S.get 1).isSome = true) : (doS S k 1 x y).2.2.get 0 = some v ∧ (doS S k 1 x y).2.2.size = 3 ∧ cnt (doS S k 1 x y).2.2.get 3 = 2 ∧ ((doS S k 1 x y).2.2.get 1).isSome = true := by
  obtain ⟨u, hu⟩ := Option.isSome_iff_exists.1 h1
  have key : ∀ z : Int, (S.step.put 1 z).get 0 = some v ∧ (S.step.put 1 z).size = 3 ∧ cnt (S.step.put 1 z).get 3 = 2 ∧ ((S.step.put 1 z).get 1).isSome = true := by
    intro z
    refine ⟨by simp [Ar.put, Ar.step, h0], h, ?_, by simp [Ar.put]⟩
    rw [← hc]
    refine cnt_congr _ _ _ fun c hc => ?_
    by_cases e : c = 1
    · subst e; simp [Ar.put, h1]
    · simp [Ar.put, Ar.step, e]
  unfold doS
  have e : (if 0 ≤ (1 : Int) then S.get (1 : Int).toNat else none) = some u := by simpa using hu
  rw [e]
  simp only
  have st : S.step.get 0 = some v ∧ S.step.size = 3 ∧ cnt S.step.get 3 = 2 ∧ (S.step.get 1).isSome = true := ⟨h0, h, hc, h1⟩
  have ed : (1 : Int).toNat = 1 := rfl
  rw [ed]
  repeat' split
  all_goals first | exact st | exact key _ | exact ⟨h0, h, hc, h1⟩

set_option maxHeartbeats 4000000 in
set_option maxRecDepth 100000 in
theorem apart_walk (w : World) (hT : TabAt w) (v : Int) (p : Option Addr) (n cap : Nat) (hz : n ≤ 140737488351232) (K C A B : Nat → Int)
    (hp : 0 < n → ∃ ab off, p = some ⟨ab, off, none⟩ ∧ ∀ i, i < n → w.cell? ⟨ab, off + i * 4, none⟩ = some (.int .i64 (K i)) ∧ w.cell? ⟨ab, off + i * 4 + 1, none⟩ = some (.int .i64 (C i)) ∧ w.cell? ⟨ab, off + i * 4 + 2, none⟩ = some (.int .u64 (A i)) ∧ w.cell? ⟨ab, off + i * 4 + 3, none⟩ = some (.int .u64 (B i))) :
    Calls Tryd.prog 6 #[.int .u64 v, .slice p n cap] w fun e w' => e = .returned (.bool true) ∧ Kept [] w w' := by
  have HT := Lib.hid hT
  have HP := Lib.hid hp
  clear hT hp
  have hzo := zero_op4
  go_enter Tryd.func6, Tryd.ntmps6
  go_wp2_with fail
  refine (shown_calls w HT.out).mono ?_
  rintro e w0 ⟨rfl, hk0⟩
  have HK0 := Lib.hid hk0
  clear hk0
  go_wp2_with fail
  refine (own_new HK0.out 3 (by omega) (by omega)).mono ?_
  rintro e w1 ⟨b, rfl, hO⟩
  have HO := Lib.hid hO
  clear hO
  go_wp2_with fail
  refine (own_alloc HO.out HT.out 0 (by decide) rfl (by omega)).mono ?_
  rintro e w2 ⟨rfl, hO⟩
  clear HO
  have HO := Lib.hid hO
  clear hO
  go_wp2_with fail
  refine (own_alloc HO.out HT.out 1 (by decide) rfl (by intro d hd; obtain rfl : d = 0 := by omega
                                                        rfl)).mono ?_
  rintro e w3 ⟨rfl, hO⟩
  clear HO
  have HO := Lib.hid hO
  clear hO
  go_wp2_with fail
  refine (own_store HO.out 0 0 v rfl).mono ?_
  rintro e w4 ⟨rfl, hO⟩
  clear HO
  have HO := Lib.hid hO
  clear hO
  go_wp2_with fail
  go_loopg [12] n (fun k iv wr => ∃ (i : Nat) (S : Ar), i ≤ n ∧ k = n - i ∧ iv = .int .i64 i ∧ Own w wr b S ∧ S.get 0 = some v ∧ S.size = 3 ∧ cnt S.get 3 = 2 ∧ (S.get 1).isSome = true)
  case atStart => exact ⟨0, _, Nat.zero_le _, rfl, rfl, HO.out, rfl, rfl, by simp [cnt, Ar.put, Ar.step], rfl⟩
  case round =>
    clear HO
    obtain ⟨i, S, hi, hk, rfl, hO, hS⟩ := hrel
    have HO := Lib.hid hO
    have HS := Lib.hid hS
    have HKK := Lib.hid hk
    clear hO hS hk
    by_cases hlt : i < n
    · have hd : decide ((i : Int) < (n : Int)) = true := by simp; omega
      obtain ⟨ab, off, rfl, hcells⟩ := HP.out (by omega)
      have hci := hcells i hlt
      have c0 := HO.out.kept.cell hci.1 (by simp)
      have c1 := HO.out.kept.cell hci.2.1 (by simp)
      have c2 := HO.out.kept.cell hci.2.2.1 (by simp)
      have c3 := HO.out.kept.cell hci.2.2.2 (by simp)
      clear hci hcells
      go_wp2_with fail
      refine (own_do (HO.out.alloc _) (K i) 1 (A i) (B i) (by omega) (by omega)).mono ?_
      rintro e w5 ⟨rfl, hO⟩
      clear HO
      have HO := Lib.hid hO
      clear hO
      go_wp2_with fail
      go_roundg (n - (i + 1))
      case measure => rw [HKK.out]; omega
      case rel => exact ⟨i + 1, _, by omega, rfl, by go_num, HO.out, doS_other S _ _ _ v HS.out.1 HS.out.2.1 HS.out.2.2.1 HS.out.2.2.2⟩
    · have hd : decide ((i : Int) < (n : Int)) = false := by simp; omega
      go_wp2_with fail
      refine (own_load HO.out 0 v HS.out.1).mono ?_
      rintro e w5 ⟨rfl, hO⟩
      clear HO
      have HO := Lib.hid hO
      clear hO
      go_wp2_with fail
      refine (own_used HO.out).mono ?_
      rintro e w6 ⟨rfl, rfl⟩
      have e2 : cnt S.step.get S.step.size = 2 := by
        show cnt S.get S.size = 2
        rw [HS.out.2.1]; exact HS.out.2.2.1
      rw [e2]
      clear e2
      go_wp2_with fail
      go_ret
      exact ⟨rfl, HO.out.kept⟩
end Go.Proofs.YtngmimhpeeahoaaDoor
