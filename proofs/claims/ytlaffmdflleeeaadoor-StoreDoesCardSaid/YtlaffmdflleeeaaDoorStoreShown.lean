/- The walk of the statements' own 'shown': true, and nothing that was there has changed. -/
import Derived.Test.YtlaffmdflleeeaaDoorStoreVer
import Derived.Test.YtlaffmdflleeeaaDoorStorePush
namespace Go.Proofs.YtlaffmdflleeeaaDoor
open Go Go.RowKit
set_option linter.unusedVariables false

theorem newSt_used (ab n : Nat) (st : Int) : (newSt ab n st).used = 0 := rfl
theorem tab_nil : 0 ∉ ([] : List Nat) := by simp

/-- An arena and a store upon it. -/
theorem new_both (w w1 : World) (k : Kept [] w w1) (n : Nat) (h0 : 1 ≤ n) (h1 : n ≤ 65536) :
    Calls Tryd.prog 10 #[.int .i64 n] w1 fun e w' => ∃ ab, e = .returned (.tuple #[.pointer (some ⟨ab, 0, none⟩), .int .i64 0]) ∧ Has [] w w' (.arena ab ⟨n, fun _ => none, 0⟩) := by
  refine (own_new k n (by omega) (by omega)).mono ?_
  rintro e w' ⟨ab, rfl, h⟩
  exact ⟨ab, rfl, Has.ofOwn h⟩

set_option maxHeartbeats 4000000 in
set_option maxRecDepth 100000 in
theorem shown_calls (w : World) (hT : TabAt w) :
    Calls Tryd.prog 9 #[] w fun e w' => e = .returned (.bool true) ∧ Kept [] w w' := by
  have HT := Lib.hid hT
  clear hT
  go_enter Tryd.func9, Tryd.ntmps9
  go_wp2_with fail
  refine (new_both w w (Kept.refl _ _) 10 (by omega) (by omega)).mono ?_
  rintro e w1 ⟨ab, rfl, hA⟩
  have HA := Lib.hid hA
  clear hA
  go_wp2_with fail
  refine (new_store (by omega) HA.out).mono ?_
  rintro e w2 ⟨b, rfl, hX⟩
  have HX := Lib.hid hX
  clear hX HA
  go_wp2_with fail
  have HN := Lib.hid (show Calls Tryd.prog 16 #[.pointer (some ⟨b, 0, none⟩)] w2 fun e w' => e = .returned (.tuple #[.int .i64 1, .int .i64 0]) ∧ ∃ st, Has [] w w' (.store b ((newSt ab 10 0).addNode st)) from node_make HX.out HT.out tab_nil (by show (0 : Nat) + 2 ≤ 10; omega))
  refine HN.out.mono ?_
  rintro e w3 ⟨rfl, st3, hX3⟩
  have HX3 := Lib.hid hX3
  clear hX3 HX HN
  go_wp2_with fail
  have HV := Lib.hid (show Calls Tryd.prog 12 #[.pointer (some ⟨b, 0, none⟩), .string ⟨#[120]⟩, .int .u64 5, .int .i64 0] w3 fun e w' => e = .returned (.tuple #[.int .i64 1, .int .i64 0]) ∧ ∃ st, Has [] w w' (.store b (((newSt ab 10 0).addNode st3).addVer st ⟨#[120]⟩ 5 0)) from version_first HX3.out HT.out tab_nil (by show (2 : Nat) + 3 ≤ 10; omega) (by decide) (by omega) (by omega) (by decide) (by show 0 ≤ _; omega))
  refine HV.out.mono ?_
  rintro e w4 ⟨rfl, st4, hX4⟩
  have HP := Lib.hid (show Calls Tryd.prog 17 #[.pointer (some ⟨b, 0, none⟩), .int .i64 1, .int .i64 0, .int .i64 1] w4 fun e w' => e = .returned (.tuple #[.bool true, .int .i64 0]) ∧ Has [] w w' (.store b ((((newSt ab 10 0).addNode st3).addVer st4 ⟨#[120]⟩ 5 0).step.set (.head 0) 1)) from push_first hX4 0 0 rfl rfl (by show 1 ≤ _; omega))
  clear hX4 HV HX3
  go_wp2_with fail
  refine HP.out.mono ?_
  rintro e w5 ⟨rfl, hX5⟩
  have HH := Lib.hid (show Calls Tryd.prog 25 #[.pointer (some ⟨b, 0, none⟩), .int .i64 1] w5 fun e w' => e = .returned (.tuple #[.int .i64 1, .int .i64 0]) ∧ Has [] w w' (.store b ((((newSt ab 10 0).addNode st3).addVer st4 ⟨#[120]⟩ 5 0).step.set (.head 0) 1).step) from head_at hX5 0 1 rfl (by omega))
  clear hX5 HP
  go_wp2_with fail
  refine HH.out.mono ?_
  rintro e w6 ⟨rfl, hX6⟩
  have HK := Lib.hid hX6.keeps
  clear hX6 HH
  go_wp2_with fail
  go_ret
  exact ⟨rfl, HK.out⟩
end Go.Proofs.YtlaffmdflleeeaaDoor
