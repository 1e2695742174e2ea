/- The walk of SkipNone. -/
import Derived.Test.YtpckpgdkfimapaaDoorSkipShown
namespace Go.Proofs.YtpckpgdkfimapaaDoor
open Go Go.RowKit
set_option linter.unusedVariables false

set_option maxHeartbeats 4000000 in
set_option maxRecDepth 100000 in
theorem none10_law (w : World) (hT : TabAt w) (key : ByteArray) (n : Int) :
    Calls Tryd.prog 5 #[.string key, .int .i64 n] w fun e w' => e = .returned (.bool true) ∧ Kept [] w w' := by
  have HT := Lib.hid hT
  clear hT
  go_enter Tryd.func5, Tryd.ntmps5
  go_wp2_with fail
  refine (shown_calls w HT.out).mono ?_
  rintro e w1 ⟨rfl, hk⟩
  have HK := Lib.hid hk
  have HN := Lib.hid (new_nil w1)
  clear hk
  go_wp2_with fail
  refine HN.out.mono ?_
  rintro e w2 ⟨rfl, rfl⟩
  go_wp2_with fail
  refine (insert_walk w2 none key n 1).mono ?_
  rintro e w3 ⟨a, rfl, hA⟩
  have HA := Lib.hid hA
  clear hA HN
  go_wp2_with fail
  refine (lookup_walk w3 none key).mono ?_
  rintro e w4 ⟨p, rfl, hP⟩
  have HP := Lib.hid (HA.out.beside hP)
  clear hP HA
  go_wp2_with fail
  refine (next_walk w4 none key).mono ?_
  rintro e w5 ⟨c, rfl, hC⟩
  have HC := Lib.hid (HP.out.beside hC)
  clear hC HP
  have hC1 := HC.out
  obtain ⟨o6, h6, _, _, b6⟩ := hC1.left
  obtain ⟨o7, h7, _, _, b7⟩ := h6.left
  have HS1 := Lib.hid ((step_nolist h7 rfl rfl).mono (R' := fun e w' => e = .returned (.bool true) ∧ Has [] w2 w' (((Part.sop a none ({ ASop.new 0 key key n (hgt 1) with begun := true }.ends ⟨#[]⟩ 0 false 1)).sep (.sop p none (.new 1 key key 0 0))).sep (.sop c none (.new 2 key ⟨#[]⟩ 0 0)))) (by
    rintro e w' ⟨rfl, h'⟩
    exact ⟨rfl, b6 _ _ (b7 _ _ h')⟩))
  clear hC1 h6 h7 b6 b7 HC
  go_wp2_with fail
  refine HS1.out.mono ?_
  rintro e w6 ⟨rfl, hX⟩
  obtain ⟨o6, h6, _, _, b6⟩ := hX.left
  obtain ⟨o7, h7, _, _, b7⟩ := h6.right
  have HS2 := Lib.hid ((step_nolist h7 rfl rfl).mono (R' := fun e w' => e = .returned (.bool true) ∧ Has [] w2 w' (((Part.sop a none ({ ASop.new 0 key key n (hgt 1) with begun := true }.ends ⟨#[]⟩ 0 false 1)).sep (.sop p none ({ ASop.new 1 key key 0 0 with begun := true }.ends ⟨#[]⟩ 0 false 1))).sep (.sop c none (.new 2 key ⟨#[]⟩ 0 0)))) (by
    rintro e w' ⟨rfl, h'⟩
    exact ⟨rfl, b6 _ _ (b7 _ _ h')⟩))
  clear hX h6 h7 b6 b7 HS1
  go_wp2_with fail
  refine HS2.out.mono ?_
  rintro e w7 ⟨rfl, hX⟩
  obtain ⟨o7, h7, _, _, b7⟩ := hX.right
  have HS3 := Lib.hid ((step_nolist h7 rfl rfl).mono (R' := fun e w' => e = .returned (.bool true) ∧ Has [] w2 w' (((Part.sop a none ({ ASop.new 0 key key n (hgt 1) with begun := true }.ends ⟨#[]⟩ 0 false 1)).sep (.sop p none ({ ASop.new 1 key key 0 0 with begun := true }.ends ⟨#[]⟩ 0 false 1))).sep (.sop c none ({ ASop.new 2 key ⟨#[]⟩ 0 0 with begun := true }.ends ⟨#[]⟩ 0 false 1)))) (by
    rintro e w' ⟨rfl, h'⟩
    exact ⟨rfl, b7 _ _ h'⟩))
  clear hX h7 b7 HS2
  go_wp2_with fail
  refine HS3.out.mono ?_
  rintro e w8 ⟨rfl, hX⟩
  obtain ⟨_, h6, _⟩ := hX.left
  obtain ⟨_, ha, _⟩ := h6.left
  obtain ⟨_, hp, _⟩ := h6.right
  obtain ⟨_, hc, _⟩ := hX.right
  have HA := Lib.hid ha
  have HP := Lib.hid hp
  have HC := Lib.hid hc
  have HK8 := Lib.hid (HK.out.tr hX.keeps)
  clear hX h6 ha hp hc HS3
  go_wp2_with fail
  refine (stepn_nil w8).mono ?_
  rintro e w9 ⟨rfl, rfl⟩
  go_wp2_with fail
  refine (show Calls Tryd.prog 10 #[.pointer (some ⟨a, 0, none⟩)] w9 fun e w' => e = .returned (.tuple #[.string ⟨#[]⟩, .int .i64 0, .bool false, .int .i64 1]) ∧ Kept [] w9 w' from ref_walk HA.out rfl).mono ?_
  rintro e w10 ⟨rfl, hk10⟩
  have HK10 := Lib.hid hk10
  clear hk10
  go_wp2_with fail
  refine (show Calls Tryd.prog 10 #[.pointer (some ⟨p, 0, none⟩)] w10 fun e w' => e = .returned (.tuple #[.string ⟨#[]⟩, .int .i64 0, .bool false, .int .i64 1]) ∧ Kept [] w10 w' from ref_walk (HP.out.quiet HK10.out) rfl).mono ?_
  rintro e w11 ⟨rfl, hk11⟩
  have HK11 := Lib.hid (HK10.out.tr hk11)
  clear hk11
  go_wp2_with fail
  refine (show Calls Tryd.prog 10 #[.pointer (some ⟨c, 0, none⟩)] w11 fun e w' => e = .returned (.tuple #[.string ⟨#[]⟩, .int .i64 0, .bool false, .int .i64 1]) ∧ Kept [] w11 w' from ref_walk (HC.out.quiet HK11.out) rfl).mono ?_
  rintro e w12 ⟨rfl, hk12⟩
  have HK12 := Lib.hid (HK11.out.tr hk12)
  clear hk12
  go_wp2_with fail
  refine (ref_nil w12).mono ?_
  rintro e w13 ⟨rfl, rfl⟩
  go_wp2_with fail
  refine (keys_nil w13).mono ?_
  rintro e w14 ⟨rfl, rfl⟩
  go_wp2_with fail
  go_ret
  exact ⟨rfl, HK8.out.tr HK12.out⟩
end Go.Proofs.YtpckpgdkfimapaaDoor
