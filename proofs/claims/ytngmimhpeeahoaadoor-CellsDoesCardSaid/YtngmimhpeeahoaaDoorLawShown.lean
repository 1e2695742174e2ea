/- The walk of the statements' own 'shown': true, and nothing that was there has changed. -/
import Derived.Test.YtngmimhpeeahoaaDoorOwn
namespace Go.Proofs.YtngmimhpeeahoaaDoor
open Go Go.RowKit
set_option linter.unusedVariables false

set_option maxHeartbeats 1000000 in
set_option maxRecDepth 100000 in
theorem shown_calls (w : World) (hT : TabAt w) :
    Calls Tryd.prog 9 #[] w fun e w' => e = .returned (.bool true) ∧ Kept [] w w' := by
  have HT := Lib.hid hT
  clear hT
  go_enter Tryd.func9, Tryd.ntmps9
  go_wp2_with fail
  refine (own_new (Kept.refl [] w) 2 (by omega) (by omega)).mono ?_
  rintro e w1 ⟨b, rfl, hO⟩
  have HO := Lib.hid hO
  clear hO
  go_wp2_with fail
  refine (own_alloc HO.out HT.out 0 (by decide) rfl (by omega)).mono ?_
  rintro e w2 ⟨rfl, hO⟩
  clear HO
  have HO := Lib.hid hO
  clear hO
  go_wp2_with fail
  refine (own_store HO.out 0 0 9 rfl).mono ?_
  rintro e w3 ⟨rfl, hO⟩
  clear HO
  have HO := Lib.hid hO
  clear hO
  go_wp2_with fail
  refine (own_load HO.out 0 9 rfl).mono ?_
  rintro e w4 ⟨rfl, hO⟩
  clear HO
  have HO := Lib.hid hO
  clear hO
  go_wp2_with fail
  go_ret
  exact ⟨rfl, HO.out.kept⟩
end Go.Proofs.YtngmimhpeeahoaaDoor
