/- The walk of HashNone: true at all keys and numbers, and nothing that was there has changed. -/
import Derived.Test.YtmldighidbfhhaaDoorHashShown
namespace Go.Proofs.YtmldighidbfhhaaDoor
open Go Go.RowKit
set_option linter.unusedVariables false

set_option maxHeartbeats 4000000 in
set_option maxRecDepth 100000 in
theorem none09_law (w : World) (hT : TabAt w) (key : ByteArray) (n : Int) :
    Calls Tryd.prog 5 #[.string key, .int .i64 n] w fun e w' => e = .returned (.bool true) ∧ Kept [] w w' := by
  have HT := Lib.hid hT
  clear hT
  go_enter Tryd.func5, Tryd.ntmps5
  go_wp2_with fail
  refine (shown_calls w HT.out).mono ?_
  rintro e w1 ⟨rfl, hk⟩
  have HK := Lib.hid hk
  have HN := Lib.hid (new_nil w1 n)
  clear hk
  go_wp2_with fail
  refine HN.out.mono ?_
  rintro e w2 ⟨rfl, rfl⟩
  go_wp2_with fail
  refine (insert_walk w2 none key 1).mono ?_
  rintro e w3 ⟨a, rfl, hA⟩
  have HKA := Lib.hid (HK.out.tr hA.keeps)
  have HA := Lib.hid hA
  clear hA HN
  go_wp2_with fail
  refine (lookup_walk w3 none key).mono ?_
  rintro e w4 ⟨p, rfl, hP⟩
  have h1 := HA.out.beside hP
  have HX := Lib.hid h1
  obtain ⟨o5, h5, _, _, b5⟩ := h1.left
  have HS := Lib.hid ((step_notable h5 rfl).mono (R' := fun e w' => e = .returned (.bool true) ∧ Has [] w2 w' ((Part.hop a none ((AHop.new key 1 true).ends 0 false 1)).sep (.hop p none (.new key 0 false)))) (by
    rintro e w' ⟨rfl, h'⟩
    exact ⟨rfl, b5 _ _ h'⟩))
  clear hP h1 h5 b5 HA
  go_wp2_with fail
  refine HS.out.mono ?_
  rintro e w6 ⟨rfl, h6⟩
  obtain ⟨o7, h7, _, _, b7⟩ := h6.right
  have HS2 := Lib.hid ((step_notable h7 rfl).mono (R' := fun e w' => e = .returned (.bool true) ∧ Has [] w2 w' ((Part.hop a none ((AHop.new key 1 true).ends 0 false 1)).sep (.hop p none ((AHop.new key 0 false).ends 0 false 1)))) (by
    rintro e w' ⟨rfl, h'⟩
    exact ⟨rfl, b7 _ _ h'⟩))
  clear h6 h7 b7 HS HX
  go_wp2_with fail
  refine HS2.out.mono ?_
  rintro e w8 ⟨rfl, h8⟩
  have HS3 := Lib.hid (step_nil w8)
  obtain ⟨_, h9, _⟩ := h8.left
  obtain ⟨_, h10, _⟩ := h8.right
  have HR1 := Lib.hid (ref_over h9 rfl)
  have H10 := Lib.hid h10
  have HK8 := Lib.hid (HK.out.tr h8.keeps)
  clear h8 h9 h10 HS2
  go_wp2_with fail
  refine HS3.out.mono ?_
  rintro e w9 ⟨rfl, rfl⟩
  go_wp2_with fail
  refine HR1.out.mono ?_
  rintro e w10 ⟨rfl, hk10⟩
  have HK10 := Lib.hid (HK8.out.tr hk10)
  have HR2 := Lib.hid (ref_over (H10.out.quiet hk10) rfl)
  have HR3 := Lib.hid (fun W => ref_nil W)
  have HB := Lib.hid (fun W => bucket_nil W key)
  have HKS := Lib.hid (fun W => keys_nil W)
  clear hk10 HS3 HR1
  go_wp2_with fail
  refine HR2.out.mono ?_
  rintro e w11 ⟨rfl, hk11⟩
  have HK11 := Lib.hid (HK10.out.tr hk11)
  clear hk11
  go_wp2_with fail
  refine (HR3.out _).mono ?_
  rintro e w12 ⟨rfl, rfl⟩
  go_wp2_with fail
  refine (HB.out _).mono ?_
  rintro e w13 ⟨rfl, rfl⟩
  go_wp2_with fail
  refine (HKS.out _).mono ?_
  rintro e w14 ⟨rfl, rfl⟩
  go_wp2_with fail
  go_ret
  exact ⟨rfl, HK11.out⟩
end Go.Proofs.YtmldighidbfhhaaDoor
