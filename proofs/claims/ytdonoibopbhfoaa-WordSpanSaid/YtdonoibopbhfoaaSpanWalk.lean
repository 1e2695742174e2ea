/- The walk of WordSpan, case by case: for every input of the parameters' types it answers true. -/
import Derived.Test.YtdonoibopbhfoaaPWordSpanx0
import Derived.Test.YtdonoibopbhfoaaPWordSpanx2
import Derived.Laws.Bits64b
namespace Go.Proofs.Ytdonoibopbhfoaa.SpanWalk
open Go.RowKit Go.Proofs.Ytdonoibopbhfoaa.PWordSpan Go.Proofs.YtdonoibopbhfoaaW.PrintWords Go.Proofs.YtdonoibopbhfoaaW.PrintLast Go.Proofs.YtdonoibopbhfoaaW.PrintMore
set_option linter.unusedVariables false
set_option linter.unusedSimpArgs false
set_option maxHeartbeats 2000000 in
set_option maxRecDepth 100000 in
theorem caseA (k : Nat) (a0 a1 a2 a3 x y cy v h u i : Int) (w : World) (A5 : Aside0 (varvelaw05_shown.f k = some true)) (A6 : Aside0 (word_Time.f a1 = some (x, 50))) (A7 : Aside0 (word_Time.f a2 = some (y, cy)))
    (A8 : Aside0 (word_Sees.f k a0 a3 x y 0 0 = some (v, h))) (A9 : Aside0 (word_Sees.f k a0 a3 x 1099511627776 0 0 = some (u, i)))  :
    Calls Try.prog 4 #[.int .i64 a0, .int .i64 a1, .int .i64 a2, .int .i64 a3] w fun e w' => e = .returned (.bool true) ∧ Drawn0 w w' := by
  go_enter Try.func4, Try.ntmps4
  go_wp2_with (first | ((with_reducible refine gate_callee (f := 9) rfl ?_); refine goesL_ (some 18) rfl rfl Try.func9 (by kernel_rfl) rfl #[] rfl (by (try simp only [List.map_toArray, List.map_cons, List.map_nil]); first | done | rfl) ?_; (with_reducible refine (varvelaw05_shown.calls k true _ A5.out).mono ?_); rintro e w' ⟨rfl, ⟨nd, rfl⟩⟩; refine ⟨_, rfl, ?_⟩) | ((with_reducible refine gate_callee (f := 12) rfl ?_); refine goesL_ (some 21) rfl rfl Try.func12 (by kernel_rfl) rfl #[.int .i64 a1] rfl (by (try simp only [List.map_toArray, List.map_cons, List.map_nil]); first | done | rfl) ?_; (with_reducible refine (word_Time.calls a1 x 50 _ A6.out).mono ?_); rintro e w' ⟨rfl, ⟨nd, rfl⟩⟩; refine ⟨_, rfl, ?_⟩) | ((with_reducible refine gate_callee (f := 12) rfl ?_); refine goesL_ (some 26) rfl rfl Try.func12 (by kernel_rfl) rfl #[.int .i64 a2] rfl (by (try simp only [List.map_toArray, List.map_cons, List.map_nil]); first | done | rfl) ?_; (with_reducible refine (word_Time.calls a2 y cy _ A7.out).mono ?_); rintro e w' ⟨rfl, ⟨nd, rfl⟩⟩; refine ⟨_, rfl, ?_⟩) | ((with_reducible refine gate_callee (f := 10) rfl ?_); refine goesL_ (some 34) rfl rfl Try.func10 (by kernel_rfl) rfl #[.int .i64 a0, .int .i64 a3, .int .u64 x, .int .u64 y, .int .u64 0, .int .u64 0] rfl (by (try simp only [List.map_toArray, List.map_cons, List.map_nil]); first | done | rfl) ?_; (with_reducible refine (word_Sees.calls k a0 a3 x y 0 0 v h _ A8.out).mono ?_); rintro e w' ⟨rfl, ⟨nd, rfl⟩⟩; refine ⟨_, rfl, ?_⟩) | ((with_reducible refine gate_callee (f := 10) rfl ?_); refine goesL_ (some 41) rfl rfl Try.func10 (by kernel_rfl) rfl #[.int .i64 a0, .int .i64 a3, .int .u64 x, .int .u64 1099511627776, .int .u64 0, .int .u64 0] rfl (by (try simp only [List.map_toArray, List.map_cons, List.map_nil]); first | done | rfl) ?_; (with_reducible refine (word_Sees.calls k a0 a3 x 1099511627776 0 0 u i _ A9.out).mono ?_); rintro e w' ⟨rfl, ⟨nd, rfl⟩⟩; refine ⟨_, rfl, ?_⟩))
  go_ret
  exact ⟨by first | rfl | (simp; done), by repeat (first | exact Drawn0.refl _ | apply Drawn0.step)⟩
set_option maxHeartbeats 2000000 in
set_option maxRecDepth 100000 in
theorem caseB (k : Nat) (a0 a1 a2 a3 x y v h u i : Int) (w : World) (A5 : Aside0 (varvelaw05_shown.f k = some true)) (A6 : Aside0 (word_Time.f a1 = some (x, 0))) (A7 : Aside0 (word_Time.f a2 = some (y, 50)))
    (A8 : Aside0 (word_Sees.f k a0 a3 x y 0 0 = some (v, h))) (A9 : Aside0 (word_Sees.f k a0 a3 x 1099511627776 0 0 = some (u, i)))  :
    Calls Try.prog 4 #[.int .i64 a0, .int .i64 a1, .int .i64 a2, .int .i64 a3] w fun e w' => e = .returned (.bool true) ∧ Drawn0 w w' := by
  go_enter Try.func4, Try.ntmps4
  go_wp2_with (first | ((with_reducible refine gate_callee (f := 9) rfl ?_); refine goesL_ (some 18) rfl rfl Try.func9 (by kernel_rfl) rfl #[] rfl (by (try simp only [List.map_toArray, List.map_cons, List.map_nil]); first | done | rfl) ?_; (with_reducible refine (varvelaw05_shown.calls k true _ A5.out).mono ?_); rintro e w' ⟨rfl, ⟨nd, rfl⟩⟩; refine ⟨_, rfl, ?_⟩) | ((with_reducible refine gate_callee (f := 12) rfl ?_); refine goesL_ (some 21) rfl rfl Try.func12 (by kernel_rfl) rfl #[.int .i64 a1] rfl (by (try simp only [List.map_toArray, List.map_cons, List.map_nil]); first | done | rfl) ?_; (with_reducible refine (word_Time.calls a1 x 0 _ A6.out).mono ?_); rintro e w' ⟨rfl, ⟨nd, rfl⟩⟩; refine ⟨_, rfl, ?_⟩) | ((with_reducible refine gate_callee (f := 12) rfl ?_); refine goesL_ (some 26) rfl rfl Try.func12 (by kernel_rfl) rfl #[.int .i64 a2] rfl (by (try simp only [List.map_toArray, List.map_cons, List.map_nil]); first | done | rfl) ?_; (with_reducible refine (word_Time.calls a2 y 50 _ A7.out).mono ?_); rintro e w' ⟨rfl, ⟨nd, rfl⟩⟩; refine ⟨_, rfl, ?_⟩) | ((with_reducible refine gate_callee (f := 10) rfl ?_); refine goesL_ (some 34) rfl rfl Try.func10 (by kernel_rfl) rfl #[.int .i64 a0, .int .i64 a3, .int .u64 x, .int .u64 y, .int .u64 0, .int .u64 0] rfl (by (try simp only [List.map_toArray, List.map_cons, List.map_nil]); first | done | rfl) ?_; (with_reducible refine (word_Sees.calls k a0 a3 x y 0 0 v h _ A8.out).mono ?_); rintro e w' ⟨rfl, ⟨nd, rfl⟩⟩; refine ⟨_, rfl, ?_⟩) | ((with_reducible refine gate_callee (f := 10) rfl ?_); refine goesL_ (some 41) rfl rfl Try.func10 (by kernel_rfl) rfl #[.int .i64 a0, .int .i64 a3, .int .u64 x, .int .u64 1099511627776, .int .u64 0, .int .u64 0] rfl (by (try simp only [List.map_toArray, List.map_cons, List.map_nil]); first | done | rfl) ?_; (with_reducible refine (word_Sees.calls k a0 a3 x 1099511627776 0 0 u i _ A9.out).mono ?_); rintro e w' ⟨rfl, ⟨nd, rfl⟩⟩; refine ⟨_, rfl, ?_⟩))
  go_ret
  exact ⟨by first | rfl | (simp; done), by repeat (first | exact Drawn0.refl _ | apply Drawn0.step)⟩
set_option maxHeartbeats 2000000 in
set_option maxRecDepth 100000 in
theorem caseC (k : Nat) (a0 a1 a2 a3 x y v u : Int) (w : World) (A5 : Aside0 (varvelaw05_shown.f k = some true)) (A6 : Aside0 (word_Time.f a1 = some (x, 0))) (A7 : Aside0 (word_Time.f a2 = some (y, 0)))
    (A8 : Aside0 (word_Sees.f k a0 a3 x y 0 0 = some (v, 50))) (A9 : Aside0 (word_Sees.f k a0 a3 x 1099511627776 0 0 = some (u, 50)))  :
    Calls Try.prog 4 #[.int .i64 a0, .int .i64 a1, .int .i64 a2, .int .i64 a3] w fun e w' => e = .returned (.bool true) ∧ Drawn0 w w' := by
  go_enter Try.func4, Try.ntmps4
  go_wp2_with (first | ((with_reducible refine gate_callee (f := 9) rfl ?_); refine goesL_ (some 18) rfl rfl Try.func9 (by kernel_rfl) rfl #[] rfl (by (try simp only [List.map_toArray, List.map_cons, List.map_nil]); first | done | rfl) ?_; (with_reducible refine (varvelaw05_shown.calls k true _ A5.out).mono ?_); rintro e w' ⟨rfl, ⟨nd, rfl⟩⟩; refine ⟨_, rfl, ?_⟩) | ((with_reducible refine gate_callee (f := 12) rfl ?_); refine goesL_ (some 21) rfl rfl Try.func12 (by kernel_rfl) rfl #[.int .i64 a1] rfl (by (try simp only [List.map_toArray, List.map_cons, List.map_nil]); first | done | rfl) ?_; (with_reducible refine (word_Time.calls a1 x 0 _ A6.out).mono ?_); rintro e w' ⟨rfl, ⟨nd, rfl⟩⟩; refine ⟨_, rfl, ?_⟩) | ((with_reducible refine gate_callee (f := 12) rfl ?_); refine goesL_ (some 26) rfl rfl Try.func12 (by kernel_rfl) rfl #[.int .i64 a2] rfl (by (try simp only [List.map_toArray, List.map_cons, List.map_nil]); first | done | rfl) ?_; (with_reducible refine (word_Time.calls a2 y 0 _ A7.out).mono ?_); rintro e w' ⟨rfl, ⟨nd, rfl⟩⟩; refine ⟨_, rfl, ?_⟩) | ((with_reducible refine gate_callee (f := 10) rfl ?_); refine goesL_ (some 34) rfl rfl Try.func10 (by kernel_rfl) rfl #[.int .i64 a0, .int .i64 a3, .int .u64 x, .int .u64 y, .int .u64 0, .int .u64 0] rfl (by (try simp only [List.map_toArray, List.map_cons, List.map_nil]); first | done | rfl) ?_; (with_reducible refine (word_Sees.calls k a0 a3 x y 0 0 v 50 _ A8.out).mono ?_); rintro e w' ⟨rfl, ⟨nd, rfl⟩⟩; refine ⟨_, rfl, ?_⟩) | ((with_reducible refine gate_callee (f := 10) rfl ?_); refine goesL_ (some 41) rfl rfl Try.func10 (by kernel_rfl) rfl #[.int .i64 a0, .int .i64 a3, .int .u64 x, .int .u64 1099511627776, .int .u64 0, .int .u64 0] rfl (by (try simp only [List.map_toArray, List.map_cons, List.map_nil]); first | done | rfl) ?_; (with_reducible refine (word_Sees.calls k a0 a3 x 1099511627776 0 0 u 50 _ A9.out).mono ?_); rintro e w' ⟨rfl, ⟨nd, rfl⟩⟩; refine ⟨_, rfl, ?_⟩))
  go_ret
  exact ⟨by first | rfl | (simp; done), by repeat (first | exact Drawn0.refl _ | apply Drawn0.step)⟩
set_option maxHeartbeats 2000000 in
set_option maxRecDepth 100000 in
theorem caseD (k : Nat) (a0 a1 a2 a3 x y : Int) (w : World) (A5 : Aside0 (varvelaw05_shown.f k = some true)) (A6 : Aside0 (word_Time.f a1 = some (x, 0))) (A7 : Aside0 (word_Time.f a2 = some (y, 0)))
    (A8 : Aside0 (word_Sees.f k a0 a3 x y 0 0 = some (1, 0))) (A9 : Aside0 (word_Sees.f k a0 a3 x 1099511627776 0 0 = some (1, 0))) (h1 : decide (a1 ≤ a3) = true) (h2 : decide (a3 < a2) = true) :
    Calls Try.prog 4 #[.int .i64 a0, .int .i64 a1, .int .i64 a2, .int .i64 a3] w fun e w' => e = .returned (.bool true) ∧ Drawn0 w w' := by
  go_enter Try.func4, Try.ntmps4
  go_wp2_with (first | ((with_reducible refine gate_callee (f := 9) rfl ?_); refine goesL_ (some 18) rfl rfl Try.func9 (by kernel_rfl) rfl #[] rfl (by (try simp only [List.map_toArray, List.map_cons, List.map_nil]); first | done | rfl) ?_; (with_reducible refine (varvelaw05_shown.calls k true _ A5.out).mono ?_); rintro e w' ⟨rfl, ⟨nd, rfl⟩⟩; refine ⟨_, rfl, ?_⟩) | ((with_reducible refine gate_callee (f := 12) rfl ?_); refine goesL_ (some 21) rfl rfl Try.func12 (by kernel_rfl) rfl #[.int .i64 a1] rfl (by (try simp only [List.map_toArray, List.map_cons, List.map_nil]); first | done | rfl) ?_; (with_reducible refine (word_Time.calls a1 x 0 _ A6.out).mono ?_); rintro e w' ⟨rfl, ⟨nd, rfl⟩⟩; refine ⟨_, rfl, ?_⟩) | ((with_reducible refine gate_callee (f := 12) rfl ?_); refine goesL_ (some 26) rfl rfl Try.func12 (by kernel_rfl) rfl #[.int .i64 a2] rfl (by (try simp only [List.map_toArray, List.map_cons, List.map_nil]); first | done | rfl) ?_; (with_reducible refine (word_Time.calls a2 y 0 _ A7.out).mono ?_); rintro e w' ⟨rfl, ⟨nd, rfl⟩⟩; refine ⟨_, rfl, ?_⟩) | ((with_reducible refine gate_callee (f := 10) rfl ?_); refine goesL_ (some 34) rfl rfl Try.func10 (by kernel_rfl) rfl #[.int .i64 a0, .int .i64 a3, .int .u64 x, .int .u64 y, .int .u64 0, .int .u64 0] rfl (by (try simp only [List.map_toArray, List.map_cons, List.map_nil]); first | done | rfl) ?_; (with_reducible refine (word_Sees.calls k a0 a3 x y 0 0 1 0 _ A8.out).mono ?_); rintro e w' ⟨rfl, ⟨nd, rfl⟩⟩; refine ⟨_, rfl, ?_⟩) | ((with_reducible refine gate_callee (f := 10) rfl ?_); refine goesL_ (some 41) rfl rfl Try.func10 (by kernel_rfl) rfl #[.int .i64 a0, .int .i64 a3, .int .u64 x, .int .u64 1099511627776, .int .u64 0, .int .u64 0] rfl (by (try simp only [List.map_toArray, List.map_cons, List.map_nil]); first | done | rfl) ?_; (with_reducible refine (word_Sees.calls k a0 a3 x 1099511627776 0 0 1 0 _ A9.out).mono ?_); rintro e w' ⟨rfl, ⟨nd, rfl⟩⟩; refine ⟨_, rfl, ?_⟩))
  go_ret
  exact ⟨by first | rfl | (simp; done), by repeat (first | exact Drawn0.refl _ | apply Drawn0.step)⟩
set_option maxHeartbeats 2000000 in
set_option maxRecDepth 100000 in
theorem caseE (k : Nat) (a0 a1 a2 a3 x y : Int) (w : World) (A5 : Aside0 (varvelaw05_shown.f k = some true)) (A6 : Aside0 (word_Time.f a1 = some (x, 0))) (A7 : Aside0 (word_Time.f a2 = some (y, 0)))
    (A8 : Aside0 (word_Sees.f k a0 a3 x y 0 0 = some (2, 0))) (A9 : Aside0 (word_Sees.f k a0 a3 x 1099511627776 0 0 = some (1, 0))) (h1 : decide (a1 ≤ a3) = true) (h2 : decide (a3 < a2) = false) :
    Calls Try.prog 4 #[.int .i64 a0, .int .i64 a1, .int .i64 a2, .int .i64 a3] w fun e w' => e = .returned (.bool true) ∧ Drawn0 w w' := by
  go_enter Try.func4, Try.ntmps4
  go_wp2_with (first | ((with_reducible refine gate_callee (f := 9) rfl ?_); refine goesL_ (some 18) rfl rfl Try.func9 (by kernel_rfl) rfl #[] rfl (by (try simp only [List.map_toArray, List.map_cons, List.map_nil]); first | done | rfl) ?_; (with_reducible refine (varvelaw05_shown.calls k true _ A5.out).mono ?_); rintro e w' ⟨rfl, ⟨nd, rfl⟩⟩; refine ⟨_, rfl, ?_⟩) | ((with_reducible refine gate_callee (f := 12) rfl ?_); refine goesL_ (some 21) rfl rfl Try.func12 (by kernel_rfl) rfl #[.int .i64 a1] rfl (by (try simp only [List.map_toArray, List.map_cons, List.map_nil]); first | done | rfl) ?_; (with_reducible refine (word_Time.calls a1 x 0 _ A6.out).mono ?_); rintro e w' ⟨rfl, ⟨nd, rfl⟩⟩; refine ⟨_, rfl, ?_⟩) | ((with_reducible refine gate_callee (f := 12) rfl ?_); refine goesL_ (some 26) rfl rfl Try.func12 (by kernel_rfl) rfl #[.int .i64 a2] rfl (by (try simp only [List.map_toArray, List.map_cons, List.map_nil]); first | done | rfl) ?_; (with_reducible refine (word_Time.calls a2 y 0 _ A7.out).mono ?_); rintro e w' ⟨rfl, ⟨nd, rfl⟩⟩; refine ⟨_, rfl, ?_⟩) | ((with_reducible refine gate_callee (f := 10) rfl ?_); refine goesL_ (some 34) rfl rfl Try.func10 (by kernel_rfl) rfl #[.int .i64 a0, .int .i64 a3, .int .u64 x, .int .u64 y, .int .u64 0, .int .u64 0] rfl (by (try simp only [List.map_toArray, List.map_cons, List.map_nil]); first | done | rfl) ?_; (with_reducible refine (word_Sees.calls k a0 a3 x y 0 0 2 0 _ A8.out).mono ?_); rintro e w' ⟨rfl, ⟨nd, rfl⟩⟩; refine ⟨_, rfl, ?_⟩) | ((with_reducible refine gate_callee (f := 10) rfl ?_); refine goesL_ (some 41) rfl rfl Try.func10 (by kernel_rfl) rfl #[.int .i64 a0, .int .i64 a3, .int .u64 x, .int .u64 1099511627776, .int .u64 0, .int .u64 0] rfl (by (try simp only [List.map_toArray, List.map_cons, List.map_nil]); first | done | rfl) ?_; (with_reducible refine (word_Sees.calls k a0 a3 x 1099511627776 0 0 1 0 _ A9.out).mono ?_); rintro e w' ⟨rfl, ⟨nd, rfl⟩⟩; refine ⟨_, rfl, ?_⟩))
  go_ret
  exact ⟨by first | rfl | (simp; done), by repeat (first | exact Drawn0.refl _ | apply Drawn0.step)⟩
set_option maxHeartbeats 2000000 in
set_option maxRecDepth 100000 in
theorem caseF (k : Nat) (a0 a1 a2 a3 x y : Int) (w : World) (A5 : Aside0 (varvelaw05_shown.f k = some true)) (A6 : Aside0 (word_Time.f a1 = some (x, 0))) (A7 : Aside0 (word_Time.f a2 = some (y, 0)))
    (A8 : Aside0 (word_Sees.f k a0 a3 x y 0 0 = some (2, 0))) (A9 : Aside0 (word_Sees.f k a0 a3 x 1099511627776 0 0 = some (2, 0))) (h1 : decide (a1 ≤ a3) = false) :
    Calls Try.prog 4 #[.int .i64 a0, .int .i64 a1, .int .i64 a2, .int .i64 a3] w fun e w' => e = .returned (.bool true) ∧ Drawn0 w w' := by
  go_enter Try.func4, Try.ntmps4
  go_wp2_with (first | ((with_reducible refine gate_callee (f := 9) rfl ?_); refine goesL_ (some 18) rfl rfl Try.func9 (by kernel_rfl) rfl #[] rfl (by (try simp only [List.map_toArray, List.map_cons, List.map_nil]); first | done | rfl) ?_; (with_reducible refine (varvelaw05_shown.calls k true _ A5.out).mono ?_); rintro e w' ⟨rfl, ⟨nd, rfl⟩⟩; refine ⟨_, rfl, ?_⟩) | ((with_reducible refine gate_callee (f := 12) rfl ?_); refine goesL_ (some 21) rfl rfl Try.func12 (by kernel_rfl) rfl #[.int .i64 a1] rfl (by (try simp only [List.map_toArray, List.map_cons, List.map_nil]); first | done | rfl) ?_; (with_reducible refine (word_Time.calls a1 x 0 _ A6.out).mono ?_); rintro e w' ⟨rfl, ⟨nd, rfl⟩⟩; refine ⟨_, rfl, ?_⟩) | ((with_reducible refine gate_callee (f := 12) rfl ?_); refine goesL_ (some 26) rfl rfl Try.func12 (by kernel_rfl) rfl #[.int .i64 a2] rfl (by (try simp only [List.map_toArray, List.map_cons, List.map_nil]); first | done | rfl) ?_; (with_reducible refine (word_Time.calls a2 y 0 _ A7.out).mono ?_); rintro e w' ⟨rfl, ⟨nd, rfl⟩⟩; refine ⟨_, rfl, ?_⟩) | ((with_reducible refine gate_callee (f := 10) rfl ?_); refine goesL_ (some 34) rfl rfl Try.func10 (by kernel_rfl) rfl #[.int .i64 a0, .int .i64 a3, .int .u64 x, .int .u64 y, .int .u64 0, .int .u64 0] rfl (by (try simp only [List.map_toArray, List.map_cons, List.map_nil]); first | done | rfl) ?_; (with_reducible refine (word_Sees.calls k a0 a3 x y 0 0 2 0 _ A8.out).mono ?_); rintro e w' ⟨rfl, ⟨nd, rfl⟩⟩; refine ⟨_, rfl, ?_⟩) | ((with_reducible refine gate_callee (f := 10) rfl ?_); refine goesL_ (some 41) rfl rfl Try.func10 (by kernel_rfl) rfl #[.int .i64 a0, .int .i64 a3, .int .u64 x, .int .u64 1099511627776, .int .u64 0, .int .u64 0] rfl (by (try simp only [List.map_toArray, List.map_cons, List.map_nil]); first | done | rfl) ?_; (with_reducible refine (word_Sees.calls k a0 a3 x 1099511627776 0 0 2 0 _ A9.out).mono ?_); rintro e w' ⟨rfl, ⟨nd, rfl⟩⟩; refine ⟨_, rfl, ?_⟩))
  go_ret
  exact ⟨by first | rfl | (simp; done), by repeat (first | exact Drawn0.refl _ | apply Drawn0.step)⟩

theorem u64_of {a : Int} (h : (Lit.int .u64 a).wf = true) : 0 ≤ a ∧ a < 18446744073709551616 := by
  simp only [Lit.wf, Bool.and_eq_true, decide_eq_true_eq] at h
  have e1 : IntKind.u64.min = 0 := by decide
  have e2 : IntKind.u64.max = 18446744073709551615 := by decide
  omega

theorem i64_of {a : Int} (h : (Lit.int .i64 a).wf = true) : -9223372036854775808 ≤ a ∧ a < 9223372036854775808 := by
  simp only [Lit.wf, Bool.and_eq_true, decide_eq_true_eq] at h
  have e1 : IntKind.i64.min = -9223372036854775808 := by decide
  have e2 : IntKind.i64.max = 9223372036854775807 := by decide
  omega

theorem wrap_id {a : Int} (h0 : -9223372036854775808 ≤ a) (h1 : a < 9223372036854775808) : wrap64 a = a := by
  unfold wrap64; omega

theorem uwrap_id {a : Int} (h0 : 0 ≤ a) (h1 : a < 18446744073709551616) : IntKind.u64.wrap a = a := by
  rw [IntKind.wrap_u64]; omega

theorem or_add (s t : Int) (hs : 0 ≤ s) (hs2 : s ≤ 3) (ht : 0 ≤ t) (ht2 : t < 4611686018427387904) :
    Go.bits .or .u64 (IntKind.u64.wrap ((IntKind.u64.wrap s) * 4611686018427387904)) (IntKind.u64.wrap t) = s * 4611686018427387904 + t := by
  rw [uwrap_id hs (by omega), uwrap_id (a := s * _) (by omega) (by omega), uwrap_id ht (by omega)]
  have h := bits_or_u64_nat (s.toNat * 4611686018427387904) t.toNat (by omega) (by omega)
  have e1 : ((s.toNat * 4611686018427387904 : Nat) : Int) = s * 4611686018427387904 := by omega
  have e2 : ((t.toNat : Nat) : Int) = t := by omega
  rw [e1, e2] at h
  rw [h]
  have h3 := Nat.shiftLeft_add_eq_or_of_lt (b := t.toNat) (i := 62) (by omega) s.toNat
  rw [Nat.shiftLeft_eq] at h3
  have h4 : (2 : Nat) ^ 62 = 4611686018427387904 := by decide
  rw [h4] at h3
  refine (congrArg Int.ofNat h3.symm).trans ?_
  show ((s.toNat * 4611686018427387904 + t.toNat : Nat) : Int) = _
  rw [Int.natCast_add, e1, e2]

theorem and62 (n : Nat) : n &&& 4611686018427387903 = n % 4611686018427387904 :=
  Nat.and_two_pow_sub_one_eq_mod n 62

theorem and_mod (w : Int) (h0 : 0 ≤ w) (h1 : w < 18446744073709551616) : Go.bits .and .u64 w 4611686018427387903 = w % 4611686018427387904 := by
  have h := bits_and_u64_nat w.toNat 4611686018427387903 (by omega) (by omega)
  rw [and62] at h
  have e2 : ((w.toNat : Nat) : Int) = w := by omega
  rw [e2] at h
  have e3 : ((w.toNat % 4611686018427387904 : Nat) : Int) = w % 4611686018427387904 := by omega
  exact h.trans e3

def okState (s t : Int) : Prop := 0 ≤ t ∧ t < 1099511627776 ∧ 0 ≤ s ∧ s ≤ 3 ∧ (s = 0 ∨ s = 3 → t = 0)
instance (s t : Int) : Decidable (okState s t) := by unfold okState; infer_instance
def stateS (s t : Int) : Int × Int := if okState s t then (s * 4611686018427387904 + t, 0) else (0, 50)
def unstateS (w : Int) : Int × Int × Bool :=
  if okState (w / 4611686018427387904) (w % 4611686018427387904) then (w / 4611686018427387904, w % 4611686018427387904, true) else (0, 0, false)
def splitS (w : Int) : Int × Int × Int :=
  if w < 1099511627776 then (1, w, 0) else if w = 1099511627776 then (2, 1099511627776, 0)
  else if 9223372036854775808 < w ∧ w < 9223372036855824384 then (3, 0, w - 9223372036854775808) else (0, 0, 0)
def isTimeS (t : Int) : Bool := decide (0 ≤ t ∧ t < 1099511627776)
def cameS (w st a : Int) : Int :=
  if (splitS w).1 = 3 then
    if (unstateS st).1 = 0 ∨ (unstateS st).1 = 3 then 2
    else if (unstateS st).1 = 1 ∧ (unstateS st).2.1 ≤ a then 3
    else if (unstateS st).2.1 > a then 2 else 1
  else if (splitS w).2.1 > a then 2 else 1
def badG (me a kb nb ke ne : Int) (ob oe : Bool) : Prop :=
  me < 0 ∨ me ≥ 1048576 ∨ a < 0 ∨ a ≥ 1099511627776 ∨ kb = 0 ∨ kb = 2 ∨ ke = 0
  ∨ (kb = 3 ∧ nb ≠ me ∧ ob = false) ∨ (ke = 3 ∧ ne ≠ me ∧ oe = false)
instance (me a kb nb ke ne : Int) (ob oe : Bool) : Decidable (badG me a kb nb ke ne ob oe) := by unfold badG; infer_instance
def endG (me ke ne ce : Int) : Int × Int :=
  if ke = 3 ∧ ne = me then (2, 0) else if ce = 1 then (2, 0) else if ce = 2 then (1, 0) else (3, 0)
def seesG (me a kb nb ke ne cb ce : Int) (ob oe : Bool) : Int × Int :=
  if badG me a kb nb ke ne ob oe then (0, 50)
  else if kb = 3 ∧ nb = me then endG me ke ne ce
  else if cb = 1 then endG me ke ne ce else (cb, 0)
def seesS (me a b e sb se : Int) : Int × Int :=
  seesG me a (splitS b).1 (splitS b).2.2 (splitS e).1 (splitS e).2.2 (cameS b sb a) (cameS e se a) (unstateS sb).2.2 (unstateS se).2.2

theorem split_eq (w : Int) (h0 : 0 ≤ w) (h1 : w < 18446744073709551616) : word_split.f w = some (splitS w) := by
  unfold word_split.f splitS
  by_cases a : w < 1099511627776
  · rw [if_pos a, if_pos a, wrap_id (by omega) (by omega)]
  rw [if_neg a, if_neg a]
  by_cases b : w = 1099511627776
  · rw [if_pos b, if_pos b]
  rw [if_neg b, if_neg b]
  by_cases c : w > 9223372036854775808
  · rw [if_pos c]
    by_cases d : w < 9223372036855824384
    · rw [if_pos d, if_pos ⟨c, d⟩, uwrap_id (by omega) (by omega), wrap_id (by omega) (by omega)]
    · rw [if_neg d, if_neg (by omega)]
  · rw [if_neg c, if_neg (by omega)]

theorem isTime_eq (t : Int) : word_isTime.f t = some (isTimeS t) := by
  unfold word_isTime.f isTimeS
  by_cases a : t ≥ 0
  · rw [if_pos a]; simp; omega
  · rw [if_neg a]; simp; omega

theorem state_eq (k : Nat) (s t : Int) : word_State.f (k + 1) s t = some (stateS s t) := by
  unfold word_State.f stateS
  simp only [word_State.j0, isTime_eq, Option.bind_some]
  by_cases h0 : s = 0
  · subst h0
    simp only [if_true, beq_self_eq_true]
    by_cases ht : t = 0
    · subst ht; decide
    · have hn : ¬ okState 0 t := by unfold okState; omega
      rw [if_neg ht, if_neg hn]
  by_cases h3 : s = 3
  · subst h3
    simp only [beq_self_eq_true, if_true]
    by_cases ht : t = 0
    · subst ht; decide
    · have hn : ¬ okState 3 t := by unfold okState; omega
      rw [if_neg ht, if_neg hn]; rfl
  rw [if_neg h0]
  have e : (s == 3) = false := by simpa using h3
  rw [e]
  simp only [Bool.false_eq_true, if_false]
  by_cases hk : okState s t
  · have hk' := hk
    unfold okState at hk'
    have et : isTimeS t = true := by unfold isTimeS; simp; omega
    rw [if_pos hk, et, or_add s t (by omega) (by omega) (by omega) (by omega)]
    by_cases h1 : s = 1
    · rw [if_pos h1]; rfl
    · rw [if_neg h1, if_pos (by omega)]; rfl
  · rw [if_neg hk]
    by_cases h1 : s = 1
    · rw [if_pos h1]
      have et : isTimeS t = false := by unfold isTimeS; unfold okState at hk; simp; omega
      rw [et]; rfl
    rw [if_neg h1]
    by_cases h2 : s = 2
    · rw [if_pos h2]
      have et : isTimeS t = false := by unfold isTimeS; unfold okState at hk; simp; omega
      rw [et]; rfl
    rw [if_neg h2]

theorem stateS_code (s t : Int) : ((stateS s t).2 = 0) = okState s t := by
  unfold stateS
  by_cases h : okState s t
  · rw [if_pos h]; simp [h]
  · rw [if_neg h]; simp [h]

theorem unstate_eq (k : Nat) (w : Int) (h0 : 0 ≤ w) (h1 : w < 18446744073709551616) : word_Unstate.f (k + 1) w = some (unstateS w) := by
  unfold word_Unstate.f unstateS
  rw [state_eq, and_mod w h0 h1, wrap_id (a := w / _) (by omega) (by omega), wrap_id (a := w % _) (by omega) (by omega)]
  simp only [Option.bind_some, stateS_code]
  split <;> rfl

theorem splitS_u (w : Int) : 0 ≤ (splitS w).1 ∧ (splitS w).1 ≤ 3 := by
  unfold splitS
  split
  · simp
  split
  · simp
  split <;> simp

theorem came_eq (k : Nat) (w st a : Int) (h0 : 0 ≤ w) (h1 : w < 18446744073709551616) (g0 : 0 ≤ st) (g1 : st < 18446744073709551616) :
    word_came.f (k + 1) w st a = some (cameS w st a) := by
  unfold word_came.f cameS
  rw [split_eq w h0 h1]
  simp only [Option.bind_some, unstate_eq k st g0 g1, word_came.j0]
  by_cases h3 : (splitS w).1 = 3
  · rw [if_pos h3, if_pos h3]
    by_cases a0 : (unstateS st).1 = 0
    · rw [if_pos a0, if_pos (Or.inl a0), a0]; rfl
    rw [if_neg a0]
    by_cases a3 : (unstateS st).1 = 3
    · rw [if_pos (Or.inr a3), a3]; rfl
    have e : ((unstateS st).1 == 3) = false := by simpa using a3
    have hn : ¬ ((unstateS st).1 = 0 ∨ (unstateS st).1 = 3) := by omega
    rw [e, if_neg hn]
    simp only [Bool.false_eq_true, if_false]
    by_cases a1 : (unstateS st).1 = 1
    · rw [if_pos a1]
      by_cases le : (unstateS st).2.1 ≤ a
      · rw [if_pos le, if_pos ⟨a1, le⟩]
      · have hm : ¬ ((unstateS st).1 = 1 ∧ (unstateS st).2.1 ≤ a) := by omega
        rw [if_neg le, if_neg hm]; split <;> rfl
    · have hm : ¬ ((unstateS st).1 = 1 ∧ (unstateS st).2.1 ≤ a) := by omega
      rw [if_neg a1, if_neg hm]; split <;> rfl
  · rw [if_neg h3, if_neg h3]; split <;> rfl

theorem sees_eq (k : Nat) (me a b e sb se : Int) (b0 : 0 ≤ b) (b1 : b < 18446744073709551616) (e0 : 0 ≤ e) (e1 : e < 18446744073709551616)
    (c0 : 0 ≤ sb) (c1 : sb < 18446744073709551616) (d0 : 0 ≤ se) (d1 : se < 18446744073709551616) :
    word_Sees.f (k + 6) me a b e sb se = some (seesS me a b e sb se) := by
  have hcb := fun k => came_eq k b sb a b0 b1 c0 c1
  have hce := fun k => came_eq k e se a e0 e1 d0 d1
  have hub := fun k => unstate_eq k sb c0 c1
  have hue := fun k => unstate_eq k se d0 d1
  have j4 : ∀ x : Bool, word_Sees.j4 (k + 2) a e se x = some (if x = true then (2, 0) else if cameS e se a = 1 then (2, 0) else if cameS e se a = 2 then (1, 0) else (3, 0)) := by
    intro x
    simp only [word_Sees.j4, hce, Option.bind_some]
    repeat' split
    all_goals rfl
  unfold word_Sees.f seesS
  rw [split_eq b b0 b1, split_eq e e0 e1, isTime_eq]
  simp only [Option.bind_some, word_Sees.j0, word_Sees.j1, word_Sees.j2, word_Sees.j3, j4, hub, hue, hcb, isTimeS]
  generalize (splitS b).1 = kb
  generalize (splitS b).2.2 = nb
  generalize (splitS e).1 = ke
  generalize (splitS e).2.2 = ne
  generalize (unstateS sb).2.2 = ob
  generalize (unstateS se).2.2 = oe
  generalize cameS b sb a = cb
  generalize cameS e se a = ce
  clear hcb hce hub hue j4
  unfold seesG endG
  by_cases m0 : me < 0
  · simp [m0, badG]
  by_cases m1 : me ≥ 1048576
  · simp [m0, m1, badG]
  rw [if_neg m0, if_neg m1]
  by_cases ta : ¬ (0 ≤ a ∧ a < 1099511627776)
  · rw [show decide (0 ≤ a ∧ a < 1099511627776) = false from by simpa using ta]
    have hb : badG me a kb nb ke ne ob oe := by unfold badG; omega
    simp only [Bool.false_eq_true, if_false, if_true]
    rw [if_pos hb]
  have ta : 0 ≤ a ∧ a < 1099511627776 := by omega
  rw [show decide (0 ≤ a ∧ a < 1099511627776) = true from by simpa using ta]
  simp only [if_true]
  by_cases kb0 : kb = 0
  · have hb : badG me a kb nb ke ne ob oe := by unfold badG; omega
    rw [if_pos kb0, if_pos hb]
  rw [if_neg kb0]
  by_cases kb2 : kb = 2
  · have hb : badG me a kb nb ke ne ob oe := by unfold badG; omega
    rw [if_pos kb2, if_pos hb]
  rw [if_neg kb2]
  by_cases ke0 : ke = 0
  · have hb : badG me a kb nb ke ne ob oe := by unfold badG; omega
    subst ke0; simp [hb]
  have ke0' : (ke == 0) = false := by simpa using ke0
  rw [ke0']
  simp only [Bool.false_eq_true, if_false]
  have m0' : ¬ (1048576 ≤ me) := m1
  have ta1 : ¬ (a < 0) := by omega
  have ta2 : ¬ (1099511627776 ≤ a) := by omega
  by_cases kb3 : kb = 3
  · subst kb3
    by_cases hb : nb = me
    · subst hb
      by_cases ke3 : ke = 3
      · subst ke3
        by_cases he : ne = nb
        · subst he
          simp [badG, m0, m0', ta1, ta2]
        · cases oe <;> simp [badG, m0, m0', ta1, ta2, he]
      · simp [badG, m0, m0', ta1, ta2, ke3, ke0]
    · by_cases ke3 : ke = 3
      · subst ke3
        by_cases he : ne = me
        · subst he
          cases ob <;> simp [badG, m0, m0', ta1, ta2, hb] <;> split <;> rfl
        · cases ob <;> cases oe <;> simp [badG, m0, m0', ta1, ta2, he, hb] <;> split <;> rfl
      · cases ob <;> simp [badG, m0, m0', ta1, ta2, hb, ke3, ke0] <;> split <;> rfl
  · by_cases ke3 : ke = 3
    · subst ke3
      by_cases he : ne = me
      · subst he
        simp [badG, m0, m0', ta1, ta2, kb3, kb0, kb2]; split <;> rfl
      · cases oe <;> simp [badG, m0, m0', ta1, ta2, kb3, kb0, kb2, he] <;> split <;> rfl
    · simp [badG, m0, m0', ta1, ta2, kb3, kb0, kb2, ke3, ke0]; split <;> rfl

theorem shown_eq (k : Nat) : varvelaw05_shown.f (k + 6) = some true := by
  unfold varvelaw05_shown.f
  rw [sees_eq k 1 7 5 1099511627776 0 0 (by omega) (by omega) (by omega) (by omega) (by omega) (by omega) (by omega) (by omega)]
  rw [show seesS 1 7 5 1099511627776 0 0 = (1, 0) from by decide]
  rfl

theorem split_time {t : Int} (h1 : t < 1099511627776) : splitS t = (1, t, 0) := by unfold splitS; rw [if_pos h1]
theorem split_never : splitS 1099511627776 = (2, 1099511627776, 0) := by decide
theorem split_owner {n : Int} (h0 : 1 ≤ n) (h1 : n < 1048576) : splitS (9223372036854775808 + n) = (3, 0, n) := by
  unfold splitS
  rw [if_neg (by omega), if_neg (by omega), if_pos (by omega)]
  congr 2; omega

def timeS (t : Int) : Int × Int := if 0 ≤ t ∧ t < 1099511627776 then (t, 0) else (0, 50)
def ownerS (n : Int) : Int × Int := if 1 ≤ n ∧ n < 1048576 then (9223372036854775808 + n, 0) else (0, 50)

theorem unstate_of {s t : Int} (h : okState s t) : unstateS (s * 4611686018427387904 + t) = (s, t, true) := by
  have h' := h
  unfold okState at h'
  unfold unstateS
  have e1 : (s * 4611686018427387904 + t) / 4611686018427387904 = s := by omega
  have e2 : (s * 4611686018427387904 + t) % 4611686018427387904 = t := by omega
  rw [e1, e2, if_pos h]
theorem unstate_zero : unstateS 0 = (0, 0, true) := by decide
def cameG (k tt s e a : Int) : Int :=
  if k = 3 then
    if s = 0 ∨ s = 3 then 2
    else if s = 1 ∧ e ≤ a then 3
    else if e > a then 2 else 1
  else if tt > a then 2 else 1
theorem cameS_def (w st a : Int) : cameS w st a = cameG (splitS w).1 (splitS w).2.1 (unstateS st).1 (unstateS st).2.1 a := rfl

theorem time_eq (t : Int) : word_Time.f t = some (timeS t) := by
  unfold word_Time.f timeS
  rw [isTime_eq]
  simp only [Option.bind_some]
  by_cases h : 0 ≤ t ∧ t < 1099511627776
  · rw [show isTimeS t = true from by unfold isTimeS; simpa using h, if_pos h, uwrap_id (by omega) (by omega)]; rfl
  · rw [show isTimeS t = false from by unfold isTimeS; simpa using h, if_neg h]; rfl

theorem span_walk (me b e a : Int) (w : World) (_ : (Lit.int .i64 me).wf = true) (hb : (Lit.int .i64 b).wf = true) (he : (Lit.int .i64 e).wf = true) (_ : (Lit.int .i64 a).wf = true) :
    Calls Try.prog 4 #[.int .i64 me, .int .i64 b, .int .i64 e, .int .i64 a] w fun e w' => e = .returned (.bool true) ∧ Below w.heap.size w w' := by
  have hT : ∀ t, 0 ≤ (timeS t).1 ∧ (timeS t).1 < 18446744073709551616 := by
    intro t; unfold timeS; split <;> simp <;> omega
  have A5 : Aside0 (varvelaw05_shown.f 6 = some true) := ⟨shown_eq 0⟩
  have s1 := sees_eq 0 me a (timeS b).1 (timeS e).1 0 0 (hT b).1 (hT b).2 (hT e).1 (hT e).2 (by omega) (by omega) (by omega) (by omega)
  have s2 := sees_eq 0 me a (timeS b).1 1099511627776 0 0 (hT b).1 (hT b).2 (by omega) (by omega) (by omega) (by omega) (by omega) (by omega)
  have t1 := time_eq b
  have t2 := time_eq e
  have fin : ∀ {e : Ending} {w' : World}, e = .returned (.bool true) ∧ Drawn0 w w' → e = .returned (.bool true) ∧ Below w.heap.size w w' := fun h => ⟨h.1, h.2.below⟩
  by_cases h1 : 0 ≤ b ∧ b < 1099511627776
  · have e1 : timeS b = (b, 0) := by unfold timeS; rw [if_pos h1]
    rw [e1] at t1 s1 s2
    by_cases h2 : 0 ≤ e ∧ e < 1099511627776
    · have e2 : timeS e = (e, 0) := by unfold timeS; rw [if_pos h2]
      rw [e2] at t2 s1
      simp only [seesS, cameS_def, split_time h1.2, split_time h2.2, split_never, unstate_zero] at s1 s2
      by_cases hbad : badG me a 1 0 1 0 true true
      · have hbad2 : badG me a 1 0 2 0 true true := by unfold badG at *; omega
        simp only [seesG, if_pos hbad, if_pos hbad2] at s1 s2
        exact (caseC 6 me b e a _ _ _ _ w A5 ⟨t1⟩ ⟨t2⟩ ⟨s1⟩ ⟨s2⟩).mono fun _ _ => fin
      · have hbad2 : ¬ badG me a 1 0 2 0 true true := by unfold badG at *; omega
        have ha2 : 1099511627776 > a := by unfold badG at hbad; omega
        simp only [seesG, if_neg hbad, if_neg hbad2, endG, cameG, ha2, if_true] at s1 s2
        by_cases g1 : b ≤ a
        · have g1' : ¬ b > a := by omega
          by_cases g2 : a < e
          · have g2' : e > a := by omega
            have s1' : word_Sees.f 6 me a b e 0 0 = some (1, 0) := by rw [s1]; simp [g1', g2']
            have s2' : word_Sees.f 6 me a b 1099511627776 0 0 = some (1, 0) := by rw [s2]; simp [g1']
            exact (caseD 6 me b e a _ _ w A5 ⟨t1⟩ ⟨t2⟩ ⟨s1'⟩ ⟨s2'⟩ (by simpa using g1) (by simpa using g2)).mono fun _ _ => fin
          · have g2' : ¬ e > a := by omega
            have s1' : word_Sees.f 6 me a b e 0 0 = some (2, 0) := by rw [s1]; simp [g1', g2']
            have s2' : word_Sees.f 6 me a b 1099511627776 0 0 = some (1, 0) := by rw [s2]; simp [g1']
            exact (caseE 6 me b e a _ _ w A5 ⟨t1⟩ ⟨t2⟩ ⟨s1'⟩ ⟨s2'⟩ (by simpa using g1) (by simpa using g2)).mono fun _ _ => fin
        · have g1' : b > a := by omega
          have s1' : word_Sees.f 6 me a b e 0 0 = some (2, 0) := by rw [s1]; simp [g1']
          have s2' : word_Sees.f 6 me a b 1099511627776 0 0 = some (2, 0) := by rw [s2]; simp [g1']
          exact (caseF 6 me b e a _ _ w A5 ⟨t1⟩ ⟨t2⟩ ⟨s1'⟩ ⟨s2'⟩ (by simpa using g1)).mono fun _ _ => fin
    · have e2 : timeS e = (0, 50) := by unfold timeS; rw [if_neg h2]
      rw [e2] at t2
      exact (caseB 6 me b e a _ _ _ _ _ _ w A5 ⟨t1⟩ ⟨t2⟩ ⟨by rw [e2] at s1; exact s1⟩ ⟨s2⟩).mono fun _ _ => fin
  · have e1 : timeS b = (0, 50) := by unfold timeS; rw [if_neg h1]
    rw [e1] at t1 s1 s2
    exact (caseA 6 me b e a _ _ _ _ _ _ _ w A5 ⟨t1⟩ ⟨t2⟩ ⟨s1⟩ ⟨s2⟩).mono fun _ _ => fin

end Go.Proofs.Ytdonoibopbhfoaa.SpanWalk
