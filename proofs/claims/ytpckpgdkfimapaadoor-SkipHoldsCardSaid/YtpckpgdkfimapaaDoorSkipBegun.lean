/- The walks of the statements' own pick, isKey, height, begun. -/
import Derived.Test.YtpckpgdkfimapaaDoorSkipMany
namespace Go.Proofs.YtpckpgdkfimapaaDoor
open Go Go.RowKit
set_option linter.unusedVariables false

theorem ret_i64 {a b : Int} (h : a = b) : Ending.returned (.int .i64 a) = .returned (.int .i64 b) := by rw [h]
set_option maxHeartbeats 1000000 in
theorem pick_walk (w : World) (c n : Int) (h1 : -9223372036854775808 ≤ c) (h2 : c < 9223372036854775808) (hn : 0 < n) (hn2 : n ≤ 100) :
    Calls Tryd.prog 11 #[.int .i64 c, .int .i64 n] w fun e w' => e = .returned (.int .i64 (pkI c n)) ∧ w' = w := by
  by_cases h : c < 0
  · have d : decide (c < 0) = true := decide_eq_true h
    have hp : pkI c n = (-(c + 1)) % n := by unfold pkI; rw [if_pos h]
    have HP := Lib.hid hp
    clear hp
    go_enter Tryd.func11, Tryd.ntmps11
    go_wp2_with fail
    go_ret
    exact ⟨ret_i64 (by rw [HP.out, ← Int.neg_tmod, Int.tmod_eq_emod_of_nonneg (by omega)]), rfl⟩
  · have d : decide (c < 0) = false := decide_eq_false h
    have hp : pkI c n = c % n := by unfold pkI; rw [if_neg h]
    have HP := Lib.hid hp
    have h0 : 0 ≤ c := by omega
    clear hp h
    go_enter Tryd.func11, Tryd.ntmps11
    go_wp2_with fail
    go_ret
    exact ⟨ret_i64 (by rw [HP.out]), rfl⟩
set_option maxHeartbeats 1000000 in
theorem height_walk (w : World) (wk kind ref height : Int) (key : ByteArray) :
    Calls Tryd.prog 12 #[.agg #[.int .i64 wk, .int .i64 kind, .string key, .int .i64 ref, .int .i64 height]] w fun e w' => e = .returned (.int .i64 (hgt height)) ∧ Kept [] w w' := by
  go_enter Tryd.func12, Tryd.ntmps12
  go_wp2_with fail
  all_goals (go_ret; exact ⟨ret_i64 (by unfold hgt; omega), (Kept.refl [] w).alloc _⟩)

set_option maxHeartbeats 1000000 in
set_option maxRecDepth 100000 in
theorem begun_walk (w : World) (tb : Option Addr) (a : SAsk) (h1 : -9223372036854775808 ≤ a.kind) (h2 : a.kind < 9223372036854775808) :
    Calls Tryd.prog 23 #[.pointer tb, a.val] w fun e w' => ∃ ob, e = .returned (.pointer (some ⟨ob, 0, none⟩)) ∧ Has [] w w' (.sop ob tb a.op) := by
  obtain ⟨wk, kind, key, ref, height⟩ := a
  have k1 : Kept [] w (w.alloc (.cells #[.int .i64 wk, .int .i64 kind, .string key, .int .i64 ref, .int .i64 height] 37)) := (Kept.refl [] w).alloc _
  have HK := Lib.hid k1
  have HP := Lib.hid (fun (W : World) => pick_walk W kind 3 h1 h2 (by omega) (by omega))
  have hop : (SAsk.op ⟨wk, kind, key, ref, height⟩) = if pkI kind 3 = 0 then ASop.new 0 key key ref (hgt height) else if pkI kind 3 = 1 then .new 1 key key 0 0 else .new 2 key ⟨#[]⟩ 0 0 := rfl
  rw [hop]
  have hr := pkI_range kind (n := 3) (by omega)
  clear h1 h2 k1 hop
  generalize pkI kind 3 = kd at *
  have HR := Lib.hid hr
  clear hr
  rcases (by have := HR.out; omega : kd = 0 ∨ kd = 1 ∨ kd = 2) with rfl | rfl | rfl
  · rw [if_pos rfl]
    have HL := Lib.hid (insert_walk (w.alloc (.cells #[.int .i64 wk, .int .i64 kind, .string key, .int .i64 ref, .int .i64 height] 37)) tb key ref height)
    unfold SAsk.val
    go_enter Tryd.func23, Tryd.ntmps23
    go_wp2_with fail
    refine (HP.out _).mono ?_
    rintro e w1 ⟨rfl, rfl⟩
    go_wp2_with fail
    refine HL.out.mono ?_
    rintro e w2 ⟨ob, rfl, hX⟩
    have HX := Lib.hid (hX.since HK.out)
    clear hX
    go_wp2_with fail
    go_ret
    exact ⟨ob, rfl, HX.out⟩
  · rw [if_neg (by omega), if_pos rfl]
    have HL := Lib.hid (lookup_walk (w.alloc (.cells #[.int .i64 wk, .int .i64 kind, .string key, .int .i64 ref, .int .i64 height] 37)) tb key)
    unfold SAsk.val
    go_enter Tryd.func23, Tryd.ntmps23
    go_wp2_with fail
    refine (HP.out _).mono ?_
    rintro e w1 ⟨rfl, rfl⟩
    go_wp2_with fail
    refine HL.out.mono ?_
    rintro e w2 ⟨ob, rfl, hX⟩
    have HX := Lib.hid (hX.since HK.out)
    clear hX
    go_wp2_with fail
    go_ret
    exact ⟨ob, rfl, HX.out⟩
  · rw [if_neg (by omega), if_neg (by omega)]
    have HL := Lib.hid (next_walk (w.alloc (.cells #[.int .i64 wk, .int .i64 kind, .string key, .int .i64 ref, .int .i64 height] 37)) tb key)
    unfold SAsk.val
    go_enter Tryd.func23, Tryd.ntmps23
    go_wp2_with fail
    refine (HP.out _).mono ?_
    rintro e w1 ⟨rfl, rfl⟩
    go_wp2_with fail
    refine HL.out.mono ?_
    rintro e w2 ⟨ob, rfl, hX⟩
    have HX := Lib.hid (hX.since HK.out)
    clear hX
    go_wp2_with fail
    go_ret
    exact ⟨ob, rfl, HX.out⟩
end Go.Proofs.YtpckpgdkfimapaaDoor
