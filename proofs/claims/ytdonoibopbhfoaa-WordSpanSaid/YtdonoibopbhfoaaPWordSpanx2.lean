-- PRINTED BY print.sh 35421559b90ae4d0a3588c463048766b98c2df88dd9212a6774a882060cdf62d: not written by this session
import Derived.Test.YtdonoibopbhfoaaPWordSpanx0
import Derived.Test.YtdonoibopbhfoaaPWordSpanx1
namespace Go.Proofs.Ytdonoibopbhfoaa.PWordSpan
open Go.RowKit Go.Proofs.YtdonoibopbhfoaaW.PrintWords Go.Proofs.YtdonoibopbhfoaaW.PrintLast Go.Proofs.YtdonoibopbhfoaaW.PrintMore
attribute [local go_sem] max2_int min2_int max_two min_two max_three min_three max_four min_four   -- for this text's walks alone
set_option linter.unusedVariables false
set_option linter.unusedSimpArgs false

/-! ### word_Sees: function 10 -/
mutual
def word_Sees.j0 : Nat → Int → Int → Int → Int → Int → Int → Int → Int → Int → Int → Bool → Option (Int × Int)
  | 0, _, _, _, _, _, _, _, _, _, _, _ => none
  | k + 1, x0, x1, x2, x3, x4, x5, x14, x16, x17, x19, x63 => if x63 = true then (some (0, 50)) else (if x14 = 3 then (if x17 = 3 then (word_Sees.j1 k x1 x2 x3 x4 x5 x14 x17 (x16 == x0) (x19 == x0)) else (word_Sees.j1 k x1 x2 x3 x4 x5 x14 x17 (x16 == x0) false)) else (if x17 = 3 then (word_Sees.j1 k x1 x2 x3 x4 x5 x14 x17 false (x19 == x0)) else (word_Sees.j1 k x1 x2 x3 x4 x5 x14 x17 false false)))
def word_Sees.j1 : Nat → Int → Int → Int → Int → Int → Int → Int → Bool → Bool → Option (Int × Int)
  | 0, _, _, _, _, _, _, _, _, _ => none
  | k + 1, x1, x2, x3, x4, x5, x14, x17, x20, x21 => (word_Unstate.f k x4).bind fun bt119 => (if x14 = 3 then (if x20 = true then (word_Sees.j2 k x1 x2 x3 x4 x5 x17 x20 x21 false) else (word_Sees.j2 k x1 x2 x3 x4 x5 x17 x20 x21 (!bt119.2.2))) else (word_Sees.j2 k x1 x2 x3 x4 x5 x17 x20 x21 false))
def word_Sees.j2 : Nat → Int → Int → Int → Int → Int → Int → Bool → Bool → Bool → Option (Int × Int)
  | 0, _, _, _, _, _, _, _, _, _ => none
  | k + 1, x1, x2, x3, x4, x5, x17, x20, x21, x93 => if x93 = true then (some (0, 50)) else ((word_Unstate.f k x5).bind fun bt122 => (if x17 = 3 then (if x21 = true then (word_Sees.j3 k x1 x2 x3 x4 x5 x20 x21 false) else (word_Sees.j3 k x1 x2 x3 x4 x5 x20 x21 (!bt122.2.2))) else (word_Sees.j3 k x1 x2 x3 x4 x5 x20 x21 false)))
def word_Sees.j3 : Nat → Int → Int → Int → Int → Int → Bool → Bool → Bool → Option (Int × Int)
  | 0, _, _, _, _, _, _, _, _ => none
  | k + 1, x1, x2, x3, x4, x5, x20, x21, x109 => if x109 = true then (some (0, 50)) else (if x20 = true then (word_Sees.j4 k x1 x3 x5 x21) else ((word_came.f k x2 x4 x1).bind fun t125 => (if t125 = 1 then (word_Sees.j4 k x1 x3 x5 x21) else (some (t125, 0)))))
def word_Sees.j4 : Nat → Int → Int → Int → Bool → Option (Int × Int)
  | 0, _, _, _, _ => none
  | k + 1, x1, x3, x5, x21 => if x21 = true then (some (2, 0)) else ((word_came.f k x3 x5 x1).bind fun t126 => (if t126 = 1 then (some (2, 0)) else (if t126 = 2 then (some (1, 0)) else (some (3, 0)))))
end
def word_Sees.f (k : Nat) (a0 : Int) (a1 : Int) (a2 : Int) (a3 : Int) (a4 : Int) (a5 : Int) : Option (Int × Int) := (word_split.f a2).bind fun bt112 => ((word_split.f a3).bind fun bt115 => (if a0 < 0 then (word_Sees.j0 k a0 a1 a2 a3 a4 a5 bt112.1 bt112.2.2 bt115.1 bt115.2.2 true) else (if a0 ≥ 1048576 then (word_Sees.j0 k a0 a1 a2 a3 a4 a5 bt112.1 bt112.2.2 bt115.1 bt115.2.2 true) else ((word_isTime.f a1).bind fun t118 => (if t118 = true then (if bt112.1 = 0 then (word_Sees.j0 k a0 a1 a2 a3 a4 a5 bt112.1 bt112.2.2 bt115.1 bt115.2.2 true) else (if bt112.1 = 2 then (word_Sees.j0 k a0 a1 a2 a3 a4 a5 bt112.1 bt112.2.2 bt115.1 bt115.2.2 true) else (word_Sees.j0 k a0 a1 a2 a3 a4 a5 bt112.1 bt112.2.2 bt115.1 bt115.2.2 (bt115.1 == 0)))) else (word_Sees.j0 k a0 a1 a2 a3 a4 a5 bt112.1 bt112.2.2 bt115.1 bt115.2.2 true))))))
theorem word_Sees.mono_l : ∀ k, (∀ y0 y1 y2 y3 y4 y5 y6 y7 y8 y9 y10, LeO (word_Sees.j0 k y0 y1 y2 y3 y4 y5 y6 y7 y8 y9 y10) (word_Sees.j0 (k + 1) y0 y1 y2 y3 y4 y5 y6 y7 y8 y9 y10)) ∧ (∀ y0 y1 y2 y3 y4 y5 y6 y7 y8, LeO (word_Sees.j1 k y0 y1 y2 y3 y4 y5 y6 y7 y8) (word_Sees.j1 (k + 1) y0 y1 y2 y3 y4 y5 y6 y7 y8)) ∧ (∀ y0 y1 y2 y3 y4 y5 y6 y7 y8, LeO (word_Sees.j2 k y0 y1 y2 y3 y4 y5 y6 y7 y8) (word_Sees.j2 (k + 1) y0 y1 y2 y3 y4 y5 y6 y7 y8)) ∧ (∀ y0 y1 y2 y3 y4 y5 y6 y7, LeO (word_Sees.j3 k y0 y1 y2 y3 y4 y5 y6 y7) (word_Sees.j3 (k + 1) y0 y1 y2 y3 y4 y5 y6 y7)) ∧ (∀ y0 y1 y2 y3, LeO (word_Sees.j4 k y0 y1 y2 y3) (word_Sees.j4 (k + 1) y0 y1 y2 y3))
  | 0 => ⟨fun _ _ _ _ _ _ _ _ _ _ _ r h => by simp [word_Sees.j0] at h, fun _ _ _ _ _ _ _ _ _ r h => by simp [word_Sees.j1] at h, fun _ _ _ _ _ _ _ _ _ r h => by simp [word_Sees.j2] at h, fun _ _ _ _ _ _ _ _ r h => by simp [word_Sees.j3] at h, fun _ _ _ _ r h => by simp [word_Sees.j4] at h⟩
  | k + 1 => by
    obtain ⟨ih0, ih1, ih2, ih3, ih4⟩ := word_Sees.mono_l k
    refine ⟨?_, ?_, ?_, ?_, ?_⟩
    · intro y0 y1 y2 y3 y4 y5 y6 y7 y8 y9 y10
      unfold word_Sees.j0
      repeat' first
      | (with_reducible exact ih0 _ _ _ _ _ _ _ _ _ _ _)
      | (with_reducible exact ih1 _ _ _ _ _ _ _ _ _)
      | (with_reducible exact ih2 _ _ _ _ _ _ _ _ _)
      | (with_reducible exact ih3 _ _ _ _ _ _ _ _)
      | (with_reducible exact ih4 _ _ _ _)
      | (with_reducible exact word_Unstate.mono _ _)
      | (with_reducible exact word_came.mono _ _ _ _)
      | (with_reducible exact LeO.refl _)
      | (with_reducible exact LeO.none _)
      | (with_reducible refine LeO.ite ?_ ?_)
      | (with_reducible refine LeO.bind ?_ (fun _ => ?_))
      | exact ih0 _ _ _ _ _ _ _ _ _ _ _
      | exact ih1 _ _ _ _ _ _ _ _ _
      | exact ih2 _ _ _ _ _ _ _ _ _
      | exact ih3 _ _ _ _ _ _ _ _
      | exact ih4 _ _ _ _
      | exact word_Unstate.mono _ _
      | exact word_came.mono _ _ _ _
      | exact LeO.none _
      | refine LeO.ite ?_ ?_
      | refine LeO.bind ?_ (fun _ => ?_)
    · intro y0 y1 y2 y3 y4 y5 y6 y7 y8
      unfold word_Sees.j1
      repeat' first
      | (with_reducible exact ih0 _ _ _ _ _ _ _ _ _ _ _)
      | (with_reducible exact ih1 _ _ _ _ _ _ _ _ _)
      | (with_reducible exact ih2 _ _ _ _ _ _ _ _ _)
      | (with_reducible exact ih3 _ _ _ _ _ _ _ _)
      | (with_reducible exact ih4 _ _ _ _)
      | (with_reducible exact word_Unstate.mono _ _)
      | (with_reducible exact word_came.mono _ _ _ _)
      | (with_reducible exact LeO.refl _)
      | (with_reducible exact LeO.none _)
      | (with_reducible refine LeO.ite ?_ ?_)
      | (with_reducible refine LeO.bind ?_ (fun _ => ?_))
      | exact ih0 _ _ _ _ _ _ _ _ _ _ _
      | exact ih1 _ _ _ _ _ _ _ _ _
      | exact ih2 _ _ _ _ _ _ _ _ _
      | exact ih3 _ _ _ _ _ _ _ _
      | exact ih4 _ _ _ _
      | exact word_Unstate.mono _ _
      | exact word_came.mono _ _ _ _
      | exact LeO.none _
      | refine LeO.ite ?_ ?_
      | refine LeO.bind ?_ (fun _ => ?_)
    · intro y0 y1 y2 y3 y4 y5 y6 y7 y8
      unfold word_Sees.j2
      repeat' first
      | (with_reducible exact ih0 _ _ _ _ _ _ _ _ _ _ _)
      | (with_reducible exact ih1 _ _ _ _ _ _ _ _ _)
      | (with_reducible exact ih2 _ _ _ _ _ _ _ _ _)
      | (with_reducible exact ih3 _ _ _ _ _ _ _ _)
      | (with_reducible exact ih4 _ _ _ _)
      | (with_reducible exact word_Unstate.mono _ _)
      | (with_reducible exact word_came.mono _ _ _ _)
      | (with_reducible exact LeO.refl _)
      | (with_reducible exact LeO.none _)
      | (with_reducible refine LeO.ite ?_ ?_)
      | (with_reducible refine LeO.bind ?_ (fun _ => ?_))
      | exact ih0 _ _ _ _ _ _ _ _ _ _ _
      | exact ih1 _ _ _ _ _ _ _ _ _
      | exact ih2 _ _ _ _ _ _ _ _ _
      | exact ih3 _ _ _ _ _ _ _ _
      | exact ih4 _ _ _ _
      | exact word_Unstate.mono _ _
      | exact word_came.mono _ _ _ _
      | exact LeO.none _
      | refine LeO.ite ?_ ?_
      | refine LeO.bind ?_ (fun _ => ?_)
    · intro y0 y1 y2 y3 y4 y5 y6 y7
      unfold word_Sees.j3
      repeat' first
      | (with_reducible exact ih0 _ _ _ _ _ _ _ _ _ _ _)
      | (with_reducible exact ih1 _ _ _ _ _ _ _ _ _)
      | (with_reducible exact ih2 _ _ _ _ _ _ _ _ _)
      | (with_reducible exact ih3 _ _ _ _ _ _ _ _)
      | (with_reducible exact ih4 _ _ _ _)
      | (with_reducible exact word_Unstate.mono _ _)
      | (with_reducible exact word_came.mono _ _ _ _)
      | (with_reducible exact LeO.refl _)
      | (with_reducible exact LeO.none _)
      | (with_reducible refine LeO.ite ?_ ?_)
      | (with_reducible refine LeO.bind ?_ (fun _ => ?_))
      | exact ih0 _ _ _ _ _ _ _ _ _ _ _
      | exact ih1 _ _ _ _ _ _ _ _ _
      | exact ih2 _ _ _ _ _ _ _ _ _
      | exact ih3 _ _ _ _ _ _ _ _
      | exact ih4 _ _ _ _
      | exact word_Unstate.mono _ _
      | exact word_came.mono _ _ _ _
      | exact LeO.none _
      | refine LeO.ite ?_ ?_
      | refine LeO.bind ?_ (fun _ => ?_)
    · intro y0 y1 y2 y3
      unfold word_Sees.j4
      repeat' first
      | (with_reducible exact ih0 _ _ _ _ _ _ _ _ _ _ _)
      | (with_reducible exact ih1 _ _ _ _ _ _ _ _ _)
      | (with_reducible exact ih2 _ _ _ _ _ _ _ _ _)
      | (with_reducible exact ih3 _ _ _ _ _ _ _ _)
      | (with_reducible exact ih4 _ _ _ _)
      | (with_reducible exact word_Unstate.mono _ _)
      | (with_reducible exact word_came.mono _ _ _ _)
      | (with_reducible exact LeO.refl _)
      | (with_reducible exact LeO.none _)
      | (with_reducible refine LeO.ite ?_ ?_)
      | (with_reducible refine LeO.bind ?_ (fun _ => ?_))
      | exact ih0 _ _ _ _ _ _ _ _ _ _ _
      | exact ih1 _ _ _ _ _ _ _ _ _
      | exact ih2 _ _ _ _ _ _ _ _ _
      | exact ih3 _ _ _ _ _ _ _ _
      | exact ih4 _ _ _ _
      | exact word_Unstate.mono _ _
      | exact word_came.mono _ _ _ _
      | exact LeO.none _
      | refine LeO.ite ?_ ?_
      | refine LeO.bind ?_ (fun _ => ?_)
theorem word_Sees.mono : ∀ a0 a1 a2 a3 a4 a5 k, LeO (word_Sees.f k a0 a1 a2 a3 a4 a5) (word_Sees.f (k + 1) a0 a1 a2 a3 a4 a5) := by
  intro a0 a1 a2 a3 a4 a5 k
  obtain ⟨ih0, ih1, ih2, ih3, ih4⟩ := word_Sees.mono_l k
  unfold word_Sees.f
  repeat' first
      | (with_reducible exact ih0 _ _ _ _ _ _ _ _ _ _ _)
      | (with_reducible exact ih1 _ _ _ _ _ _ _ _ _)
      | (with_reducible exact ih2 _ _ _ _ _ _ _ _ _)
      | (with_reducible exact ih3 _ _ _ _ _ _ _ _)
      | (with_reducible exact ih4 _ _ _ _)
      | (with_reducible exact word_Unstate.mono _ _)
      | (with_reducible exact word_came.mono _ _ _ _)
      | (with_reducible exact LeO.refl _)
      | (with_reducible exact LeO.none _)
      | (with_reducible refine LeO.ite ?_ ?_)
      | (with_reducible refine LeO.bind ?_ (fun _ => ?_))
      | exact ih0 _ _ _ _ _ _ _ _ _ _ _
      | exact ih1 _ _ _ _ _ _ _ _ _
      | exact ih2 _ _ _ _ _ _ _ _ _
      | exact ih3 _ _ _ _ _ _ _ _
      | exact ih4 _ _ _ _
      | exact word_Unstate.mono _ _
      | exact word_came.mono _ _ _ _
      | exact LeO.none _
      | refine LeO.ite ?_ ?_
      | refine LeO.bind ?_ (fun _ => ?_)
set_option maxHeartbeats 8000000 in
set_option maxRecDepth 100000 in
theorem word_Sees.calls (k : Nat) (a0 : Int) (a1 : Int) (a2 : Int) (a3 : Int) (a4 : Int) (a5 : Int) (r1 : Int) (r2 : Int) (w : World) (h : word_Sees.f k a0 a1 a2 a3 a4 a5 = some (r1, r2)) :
    Calls Try.prog 10 #[.int .i64 a0, .int .i64 a1, .int .u64 a2, .int .u64 a3, .int .u64 a4, .int .u64 a5] w fun e w' => e = .returned (.tuple #[.int .i64 r1, .int .i64 r2]) ∧ Drawn0 w w' := by
  have H : ((word_split.f a2).bind fun bt112 => ((word_split.f a3).bind fun bt115 => (if a0 < 0 then (word_Sees.j0 k a0 a1 a2 a3 a4 a5 bt112.1 bt112.2.2 bt115.1 bt115.2.2 true) else (if a0 ≥ 1048576 then (word_Sees.j0 k a0 a1 a2 a3 a4 a5 bt112.1 bt112.2.2 bt115.1 bt115.2.2 true) else ((word_isTime.f a1).bind fun t118 => (if t118 = true then (if bt112.1 = 0 then (word_Sees.j0 k a0 a1 a2 a3 a4 a5 bt112.1 bt112.2.2 bt115.1 bt115.2.2 true) else (if bt112.1 = 2 then (word_Sees.j0 k a0 a1 a2 a3 a4 a5 bt112.1 bt112.2.2 bt115.1 bt115.2.2 true) else (word_Sees.j0 k a0 a1 a2 a3 a4 a5 bt112.1 bt112.2.2 bt115.1 bt115.2.2 (bt115.1 == 0)))) else (word_Sees.j0 k a0 a1 a2 a3 a4 a5 bt112.1 bt112.2.2 bt115.1 bt115.2.2 true))))))) = some (r1, r2) := h
  clear h
  replace H := Option.bind_eq_some_iff.mp H
  obtain ⟨⟨t112, t113, t114⟩, A70, H⟩ := H
  replace H : ((word_split.f a3).bind fun bt115 => (if a0 < 0 then (word_Sees.j0 k a0 a1 a2 a3 a4 a5 t112 t114 bt115.1 bt115.2.2 true) else (if a0 ≥ 1048576 then (word_Sees.j0 k a0 a1 a2 a3 a4 a5 t112 t114 bt115.1 bt115.2.2 true) else ((word_isTime.f a1).bind fun t118 => (if t118 = true then (if t112 = 0 then (word_Sees.j0 k a0 a1 a2 a3 a4 a5 t112 t114 bt115.1 bt115.2.2 true) else (if t112 = 2 then (word_Sees.j0 k a0 a1 a2 a3 a4 a5 t112 t114 bt115.1 bt115.2.2 true) else (word_Sees.j0 k a0 a1 a2 a3 a4 a5 t112 t114 bt115.1 bt115.2.2 (bt115.1 == 0)))) else (word_Sees.j0 k a0 a1 a2 a3 a4 a5 t112 t114 bt115.1 bt115.2.2 true)))))) = some (r1, r2) := H
  have A7 := Aside0.mk A70
  clear A70
  replace H := Option.bind_eq_some_iff.mp H
  obtain ⟨⟨t115, t116, t117⟩, A80, H⟩ := H
  replace H : (if a0 < 0 then (word_Sees.j0 k a0 a1 a2 a3 a4 a5 t112 t114 t115 t117 true) else (if a0 ≥ 1048576 then (word_Sees.j0 k a0 a1 a2 a3 a4 a5 t112 t114 t115 t117 true) else ((word_isTime.f a1).bind fun t118 => (if t118 = true then (if t112 = 0 then (word_Sees.j0 k a0 a1 a2 a3 a4 a5 t112 t114 t115 t117 true) else (if t112 = 2 then (word_Sees.j0 k a0 a1 a2 a3 a4 a5 t112 t114 t115 t117 true) else (word_Sees.j0 k a0 a1 a2 a3 a4 a5 t112 t114 t115 t117 (t115 == 0)))) else (word_Sees.j0 k a0 a1 a2 a3 a4 a5 t112 t114 t115 t117 true))))) = some (r1, r2) := H
  have A8 := Aside0.mk A80
  clear A80
  have HC9 := Aside0.mk H
  clear H
  go_enter Try.func10, Try.ntmps10
  go_upto_region 3 with (first | ((with_reducible refine gate_callee (f := 22) rfl ?_); refine goesL_ (some 31) rfl rfl Try.func22 (by kernel_rfl) rfl #[.int .u64 a2] rfl (by (try simp only [List.map_toArray, List.map_cons, List.map_nil]); first | done | rfl | (simp only [List.length_drop, List.length_take]; rfl)) ?_; (with_reducible refine (word_split.calls a2 t112 t113 t114 _ A7.out).mono ?_); rintro e w' ⟨rfl, ⟨nd, rfl⟩⟩; refine ⟨_, rfl, ?_⟩) | ((with_reducible refine gate_callee (f := 22) rfl ?_); refine goesL_ (some 37) rfl rfl Try.func22 (by kernel_rfl) rfl #[.int .u64 a3] rfl (by (try simp only [List.map_toArray, List.map_cons, List.map_nil]); first | done | rfl | (simp only [List.length_drop, List.length_take]; rfl)) ?_; (with_reducible refine (word_split.calls a3 t115 t116 t117 _ A8.out).mono ?_); rintro e w' ⟨rfl, ⟨nd, rfl⟩⟩; refine ⟨_, rfl, ?_⟩))
  (try simp only [Act.put, List.setIfInBounds_toArray, List.set_cons_zero, List.set_cons_succ])
  go_cut [63] (fun v63 wc => ∃ (kq : Nat) (x63_8 : Bool), v63 = .bool x63_8 ∧ Aside0 (word_Sees.j0 kq a0 a1 a2 a3 a4 a5 t112 t114 t115 t117 x63_8 = some (r1, r2)) ∧ Aside0 (kq ≤ k) ∧ Drawn0 w wc)
  case first =>
    have H := HC9.out
    clear HC9
    by_cases c10 : a0 < 0
    · rw [if_pos c10] at H
      have c10b0 : decide (a0 < 0) = true := decide_eq_true c10
      clear c10
      (first | rw [c10b0] | (simp only [i64_w, i32_w]; rw [c10b0]) | skip)
      have H' := Aside0.mk H
      clear H
      go_wp2
      go_meet
      case rel => exact ⟨_, (true), (by first | rfl | (simp; done) | (simp [*]; done)), H', ⟨by first | omega | exact Nat.le_refl _⟩, by repeat (first | exact Drawn0.refl _ | apply Drawn0.step)⟩
    · rw [if_neg c10] at H
      have c10b0 : decide (a0 < 0) = false := decide_eq_false c10
      clear c10
      (first | rw [c10b0] | (simp only [i64_w, i32_w]; rw [c10b0]) | skip)
      by_cases c11 : a0 ≥ 1048576
      · rw [if_pos c11] at H
        have c11b0 : decide (1048576 ≤ a0) = true := decide_eq_true c11
        clear c11
        have H' := Aside0.mk H
        clear H
        go_wp2
        go_meet
        case rel => exact ⟨_, (true), (by first | rfl | (simp; done) | (simp [*]; done)), H', ⟨by first | omega | exact Nat.le_refl _⟩, by repeat (first | exact Drawn0.refl _ | apply Drawn0.step)⟩
      · rw [if_neg c11] at H
        have c11b0 : decide (1048576 ≤ a0) = false := decide_eq_false c11
        clear c11
        replace H := Option.bind_eq_some_iff.mp H
        obtain ⟨t118, A120, H⟩ := H
        replace H : (if t118 = true then (if t112 = 0 then (word_Sees.j0 k a0 a1 a2 a3 a4 a5 t112 t114 t115 t117 true) else (if t112 = 2 then (word_Sees.j0 k a0 a1 a2 a3 a4 a5 t112 t114 t115 t117 true) else (word_Sees.j0 k a0 a1 a2 a3 a4 a5 t112 t114 t115 t117 (t115 == 0)))) else (word_Sees.j0 k a0 a1 a2 a3 a4 a5 t112 t114 t115 t117 true)) = some (r1, r2) := H
        have A12 := Aside0.mk A120
        clear A120
        by_cases c13 : t118 = true
        · subst c13
          have H1 : (if t112 = 0 then (word_Sees.j0 k a0 a1 a2 a3 a4 a5 t112 t114 t115 t117 true) else (if t112 = 2 then (word_Sees.j0 k a0 a1 a2 a3 a4 a5 t112 t114 t115 t117 true) else (word_Sees.j0 k a0 a1 a2 a3 a4 a5 t112 t114 t115 t117 (t115 == 0)))) = some (r1, r2) := by rw [if_pos rfl] at H; exact H
          clear H
          have H := H1
          clear H1
          by_cases c14 : t112 = 0
          · rw [if_pos c14] at H
            have c14b0 : (t112 == 0) = true := beq_iff_eq.mpr c14
            have c14b1 : (t112 != 0) = false := bne_eq_false_iff_eq.mpr c14
            clear c14
            have H' := Aside0.mk H
            clear H
            go_wp2_with (first | (go_at_call 23; (with_reducible refine (word_isTime.calls a1 true _ A12.out).mono ?_); rintro e w' ⟨rfl, ⟨nd, rfl⟩⟩))
            go_meet
            case rel => exact ⟨_, (true), (by first | rfl | (simp; done) | (simp [*]; done)), H', ⟨by first | omega | exact Nat.le_refl _⟩, by repeat (first | exact Drawn0.refl _ | apply Drawn0.step)⟩
          · rw [if_neg c14] at H
            have c14b0 : (t112 == 0) = false := beq_eq_false_iff_ne.mpr c14
            have c14b1 : (t112 != 0) = true := bne_iff_ne.mpr c14
            by_cases c15 : t112 = 2
            · rw [if_pos c15] at H
              have c15b0 : (t112 == 2) = true := beq_iff_eq.mpr c15
              have c15b1 : (t112 != 2) = false := bne_eq_false_iff_eq.mpr c15
              clear c15
              have H' := Aside0.mk H
              clear H
              go_wp2_with (first | (go_at_call 23; (with_reducible refine (word_isTime.calls a1 true _ A12.out).mono ?_); rintro e w' ⟨rfl, ⟨nd, rfl⟩⟩))
              go_meet
              case rel => exact ⟨_, (true), (by first | rfl | (simp; done) | (simp [*]; done)), H', ⟨by first | omega | exact Nat.le_refl _⟩, by repeat (first | exact Drawn0.refl _ | apply Drawn0.step)⟩
            · rw [if_neg c15] at H
              have c15b0 : (t112 == 2) = false := beq_eq_false_iff_ne.mpr c15
              have c15b1 : (t112 != 2) = true := bne_iff_ne.mpr c15
              have H' := Aside0.mk H
              clear H
              go_wp2_with (first | (go_at_call 23; (with_reducible refine (word_isTime.calls a1 true _ A12.out).mono ?_); rintro e w' ⟨rfl, ⟨nd, rfl⟩⟩))
              go_meet
              case rel => exact ⟨_, ((t115 == 0)), (by first | rfl | (simp; done) | (simp [*]; done)), H', ⟨by first | omega | exact Nat.le_refl _⟩, by repeat (first | exact Drawn0.refl _ | apply Drawn0.step)⟩
        · replace c13 := Bool.eq_false_iff.mpr c13
          subst c13
          have H1 : (word_Sees.j0 k a0 a1 a2 a3 a4 a5 t112 t114 t115 t117 true) = some (r1, r2) := by rw [if_neg (show ¬ (false = true) by decide)] at H; exact H
          clear H
          have H := H1
          clear H1
          have H' := Aside0.mk H
          clear H
          go_wp2_with (first | (go_at_call 23; (with_reducible refine (word_isTime.calls a1 false _ A12.out).mono ?_); rintro e w' ⟨rfl, ⟨nd, rfl⟩⟩))
          go_meet
          case rel => exact ⟨_, (true), (by first | rfl | (simp; done) | (simp [*]; done)), H', ⟨by first | omega | exact Nat.le_refl _⟩, by repeat (first | exact Drawn0.refl _ | apply Drawn0.step)⟩
  case rest =>
    clear HC9
    try clear c1
    try clear c2
    try clear p2
    try clear c10
    try clear c10b0
    try clear c11
    try clear c11b0
    try clear c13
    try clear c14
    try clear c14b0
    try clear c14b1
    try clear c15
    try clear c15b0
    try clear c15b1
    obtain ⟨kq, x63_8, rfl, HA, HJ8, ⟨mc8, rfl⟩⟩ := hcut
    cases kq with
    | zero => exact absurd HA.out (by simp [word_Sees.j0])
    | succ kj8 =>
      have H := HA.out
      clear HA
      simp only [word_Sees.j0] at H
      by_cases c16 : x63_8 = true
      · subst c16
        have H1 : (some (0, 50)) = some (r1, r2) := by rw [if_pos rfl] at H; exact H
        clear H
        have H := H1
        clear H1
        simp only [Option.some.injEq, Prod.mk.injEq] at H
        obtain ⟨rfl, rfl⟩ := H
        go_wp2
        go_ret2
        exact ⟨by first | rfl | (simp; done) | (simp [*]; done), by repeat (first | exact Drawn0.refl _ | apply Drawn0.step)⟩
      · replace c16 := Bool.eq_false_iff.mpr c16
        subst c16
        have H1 : (if t112 = 3 then (if t115 = 3 then (word_Sees.j1 kj8 a1 a2 a3 a4 a5 t112 t115 (t114 == a0) (t117 == a0)) else (word_Sees.j1 kj8 a1 a2 a3 a4 a5 t112 t115 (t114 == a0) false)) else (if t115 = 3 then (word_Sees.j1 kj8 a1 a2 a3 a4 a5 t112 t115 false (t117 == a0)) else (word_Sees.j1 kj8 a1 a2 a3 a4 a5 t112 t115 false false))) = some (r1, r2) := by rw [if_neg (show ¬ (false = true) by decide)] at H; exact H
        clear H
        have H := H1
        clear H1
        have HC17 := Aside0.mk H
        clear H
        go_upto_region 5 with (fail)
        go_cut [20, 21] (fun v20 v21 wc => ∃ (kq : Nat) (x20_16 : Bool) (x21_16 : Bool), v20 = .bool x20_16 ∧ v21 = .bool x21_16 ∧ Aside0 (word_Sees.j1 kq a1 a2 a3 a4 a5 t112 t115 x20_16 x21_16 = some (r1, r2)) ∧ Aside0 (kq ≤ kj8) ∧ Drawn0 w wc)
        case first =>
          have H := HC17.out
          clear HC17
          by_cases c18 : t112 = 3
          · rw [if_pos c18] at H
            have c18b0 : (t112 == 3) = true := beq_iff_eq.mpr c18
            have c18b1 : (t112 != 3) = false := bne_eq_false_iff_eq.mpr c18
            clear c18
            (first | rw [c18b0] | (simp only [i64_w, i32_w]; rw [c18b0]) | skip)
            by_cases c19 : t115 = 3
            · rw [if_pos c19] at H
              have c19b0 : (t115 == 3) = true := beq_iff_eq.mpr c19
              have c19b1 : (t115 != 3) = false := bne_eq_false_iff_eq.mpr c19
              clear c19
              have H' := Aside0.mk H
              clear H
              go_wp2
              go_meet
              case rel => exact ⟨_, ((t114 == a0)), ((t117 == a0)), (by first | rfl | (simp; done) | (simp [*]; done)), (by first | rfl | (simp; done) | (simp [*]; done)), H', ⟨by have := HJ8.out; first | omega | exact Nat.le_refl _⟩, by repeat (first | exact Drawn0.refl _ | apply Drawn0.step)⟩
            · rw [if_neg c19] at H
              have c19b0 : (t115 == 3) = false := beq_eq_false_iff_ne.mpr c19
              have c19b1 : (t115 != 3) = true := bne_iff_ne.mpr c19
              have H' := Aside0.mk H
              clear H
              go_wp2
              go_meet
              case rel => exact ⟨_, ((t114 == a0)), (false), (by first | rfl | (simp; done) | (simp [*]; done)), (by first | rfl | (simp; done) | (simp [*]; done)), H', ⟨by have := HJ8.out; first | omega | exact Nat.le_refl _⟩, by repeat (first | exact Drawn0.refl _ | apply Drawn0.step)⟩
          · rw [if_neg c18] at H
            have c18b0 : (t112 == 3) = false := beq_eq_false_iff_ne.mpr c18
            have c18b1 : (t112 != 3) = true := bne_iff_ne.mpr c18
            (first | rw [c18b0] | (simp only [i64_w, i32_w]; rw [c18b0]) | skip)
            by_cases c20 : t115 = 3
            · rw [if_pos c20] at H
              have c20b0 : (t115 == 3) = true := beq_iff_eq.mpr c20
              have c20b1 : (t115 != 3) = false := bne_eq_false_iff_eq.mpr c20
              clear c20
              have H' := Aside0.mk H
              clear H
              go_wp2
              go_meet
              case rel => exact ⟨_, (false), ((t117 == a0)), (by first | rfl | (simp; done) | (simp [*]; done)), (by first | rfl | (simp; done) | (simp [*]; done)), H', ⟨by have := HJ8.out; first | omega | exact Nat.le_refl _⟩, by repeat (first | exact Drawn0.refl _ | apply Drawn0.step)⟩
            · rw [if_neg c20] at H
              have c20b0 : (t115 == 3) = false := beq_eq_false_iff_ne.mpr c20
              have c20b1 : (t115 != 3) = true := bne_iff_ne.mpr c20
              have H' := Aside0.mk H
              clear H
              go_wp2
              go_meet
              case rel => exact ⟨_, (false), (false), (by first | rfl | (simp; done) | (simp [*]; done)), (by first | rfl | (simp; done) | (simp [*]; done)), H', ⟨by have := HJ8.out; first | omega | exact Nat.le_refl _⟩, by repeat (first | exact Drawn0.refl _ | apply Drawn0.step)⟩
        case rest =>
          clear HC17
          try clear c1
          try clear c2
          try clear p2
          try clear c8
          try clear c10
          try clear c10b0
          try clear c11
          try clear c11b0
          try clear c13
          try clear c14
          try clear c14b0
          try clear c14b1
          try clear c15
          try clear c15b0
          try clear c15b1
          try clear c16
          try clear c18
          try clear c18b0
          try clear c18b1
          try clear c19
          try clear c19b0
          try clear c19b1
          try clear c20
          try clear c20b0
          try clear c20b1
          try clear p2
          obtain ⟨kq, x20_16, x21_16, rfl, rfl, HA, HJ16, ⟨mc16, rfl⟩⟩ := hcut
          cases kq with
          | zero => exact absurd HA.out (by simp [word_Sees.j1])
          | succ kj16 =>
            have H := HA.out
            clear HA
            simp only [word_Sees.j1] at H
            replace H := Option.bind_eq_some_iff.mp H
            obtain ⟨⟨t119, t120, t121⟩, A210, H⟩ := H
            replace H : (if t112 = 3 then (if x20_16 = true then (word_Sees.j2 kj16 a1 a2 a3 a4 a5 t115 x20_16 x21_16 false) else (word_Sees.j2 kj16 a1 a2 a3 a4 a5 t115 x20_16 x21_16 (!t121))) else (word_Sees.j2 kj16 a1 a2 a3 a4 a5 t115 x20_16 x21_16 false)) = some (r1, r2) := H
            have A21 := Aside0.mk A210
            clear A210
            have HC22 := Aside0.mk H
            clear H
            go_upto_region 7 with (first | ((with_reducible refine gate_callee (f := 20) rfl ?_); refine goesL_ (some 80) rfl rfl Try.func20 (by kernel_rfl) rfl #[.int .u64 a4] rfl (by (try simp only [List.map_toArray, List.map_cons, List.map_nil]); first | done | rfl | (simp only [List.length_drop, List.length_take]; rfl)) ?_; (with_reducible refine (word_Unstate.calls kj16 a4 t119 t120 t121 _ A21.out).mono ?_); rintro e w' ⟨rfl, ⟨nd, rfl⟩⟩; refine ⟨_, rfl, ?_⟩))
            (try simp only [Act.put, List.setIfInBounds_toArray, List.set_cons_zero, List.set_cons_succ])
            go_cut [93] (fun v93 wc => ∃ (kq : Nat) (x93_21 : Bool), v93 = .bool x93_21 ∧ Aside0 (word_Sees.j2 kq a1 a2 a3 a4 a5 t115 x20_16 x21_16 x93_21 = some (r1, r2)) ∧ Aside0 (kq ≤ kj16) ∧ Drawn0 w wc)
            case first =>
              have H := HC22.out
              clear HC22
              by_cases c23 : t112 = 3
              · rw [if_pos c23] at H
                have c23b0 : (t112 == 3) = true := beq_iff_eq.mpr c23
                have c23b1 : (t112 != 3) = false := bne_eq_false_iff_eq.mpr c23
                clear c23
                (first | rw [c23b0] | (simp only [i64_w, i32_w]; rw [c23b0]) | skip)
                by_cases c24 : x20_16 = true
                · subst c24
                  have H1 : (word_Sees.j2 kj16 a1 a2 a3 a4 a5 t115 true x21_16 false) = some (r1, r2) := by rw [if_pos rfl] at H; exact H
                  clear H
                  have H := H1
                  clear H1
                  have H' := Aside0.mk H
                  clear H
                  go_wp2
                  go_meet
                  case rel => exact ⟨_, (false), (by first | rfl | (simp; done) | (simp [*]; done)), H', ⟨by have := HJ8.out; have := HJ16.out; first | omega | exact Nat.le_refl _⟩, by repeat (first | exact Drawn0.refl _ | apply Drawn0.step)⟩
                · replace c24 := Bool.eq_false_iff.mpr c24
                  subst c24
                  have H1 : (word_Sees.j2 kj16 a1 a2 a3 a4 a5 t115 false x21_16 (!t121)) = some (r1, r2) := by rw [if_neg (show ¬ (false = true) by decide)] at H; exact H
                  clear H
                  have H := H1
                  clear H1
                  have H' := Aside0.mk H
                  clear H
                  go_wp2
                  go_meet
                  case rel => exact ⟨_, (!t121), (by first | rfl | (simp; done) | (simp [*]; done)), H', ⟨by have := HJ8.out; have := HJ16.out; first | omega | exact Nat.le_refl _⟩, by repeat (first | exact Drawn0.refl _ | apply Drawn0.step)⟩
              · rw [if_neg c23] at H
                have c23b0 : (t112 == 3) = false := beq_eq_false_iff_ne.mpr c23
                have c23b1 : (t112 != 3) = true := bne_iff_ne.mpr c23
                (first | rw [c23b0] | (simp only [i64_w, i32_w]; rw [c23b0]) | skip)
                have H' := Aside0.mk H
                clear H
                go_wp2
                go_meet
                case rel => exact ⟨_, (false), (by first | rfl | (simp; done) | (simp [*]; done)), H', ⟨by have := HJ8.out; have := HJ16.out; first | omega | exact Nat.le_refl _⟩, by repeat (first | exact Drawn0.refl _ | apply Drawn0.step)⟩
            case rest =>
              clear HC22
              try clear c1
              try clear c2
              try clear p2
              try clear c8
              try clear c10
              try clear c10b0
              try clear c11
              try clear c11b0
              try clear c13
              try clear c14
              try clear c14b0
              try clear c14b1
              try clear c15
              try clear c15b0
              try clear c15b1
              try clear c16
              try clear c18
              try clear c18b0
              try clear c18b1
              try clear c19
              try clear c19b0
              try clear c19b1
              try clear c20
              try clear c20b0
              try clear c20b1
              try clear c22
              try clear c23
              try clear c23b0
              try clear c23b1
              try clear c24
              try clear p2
              obtain ⟨kq, x93_21, rfl, HA, HJ21, ⟨mc21, rfl⟩⟩ := hcut
              cases kq with
              | zero => exact absurd HA.out (by simp [word_Sees.j2])
              | succ kj21 =>
                have H := HA.out
                clear HA
                simp only [word_Sees.j2] at H
                by_cases c25 : x93_21 = true
                · subst c25
                  have H1 : (some (0, 50)) = some (r1, r2) := by rw [if_pos rfl] at H; exact H
                  clear H
                  have H := H1
                  clear H1
                  simp only [Option.some.injEq, Prod.mk.injEq] at H
                  obtain ⟨rfl, rfl⟩ := H
                  go_wp2
                  go_ret2
                  exact ⟨by first | rfl | (simp; done) | (simp [*]; done), by repeat (first | exact Drawn0.refl _ | apply Drawn0.step)⟩
                · replace c25 := Bool.eq_false_iff.mpr c25
                  subst c25
                  have H1 : ((word_Unstate.f kj21 a5).bind fun bt122 => (if t115 = 3 then (if x21_16 = true then (word_Sees.j3 kj21 a1 a2 a3 a4 a5 x20_16 x21_16 false) else (word_Sees.j3 kj21 a1 a2 a3 a4 a5 x20_16 x21_16 (!bt122.2.2))) else (word_Sees.j3 kj21 a1 a2 a3 a4 a5 x20_16 x21_16 false))) = some (r1, r2) := by rw [if_neg (show ¬ (false = true) by decide)] at H; exact H
                  clear H
                  have H := H1
                  clear H1
                  replace H := Option.bind_eq_some_iff.mp H
                  obtain ⟨⟨t122, t123, t124⟩, A260, H⟩ := H
                  replace H : (if t115 = 3 then (if x21_16 = true then (word_Sees.j3 kj21 a1 a2 a3 a4 a5 x20_16 x21_16 false) else (word_Sees.j3 kj21 a1 a2 a3 a4 a5 x20_16 x21_16 (!t124))) else (word_Sees.j3 kj21 a1 a2 a3 a4 a5 x20_16 x21_16 false)) = some (r1, r2) := H
                  have A26 := Aside0.mk A260
                  clear A260
                  have HC27 := Aside0.mk H
                  clear H
                  go_upto_region 10 with (first | ((with_reducible refine gate_callee (f := 20) rfl ?_); refine goesL_ (some 96) rfl rfl Try.func20 (by kernel_rfl) rfl #[.int .u64 a5] rfl (by (try simp only [List.map_toArray, List.map_cons, List.map_nil]); first | done | rfl | (simp only [List.length_drop, List.length_take]; rfl)) ?_; (with_reducible refine (word_Unstate.calls kj21 a5 t122 t123 t124 _ A26.out).mono ?_); rintro e w' ⟨rfl, ⟨nd, rfl⟩⟩; refine ⟨_, rfl, ?_⟩))
                  (try simp only [Act.put, List.setIfInBounds_toArray, List.set_cons_zero, List.set_cons_succ])
                  go_cut [109] (fun v109 wc => ∃ (kq : Nat) (x109_26 : Bool), v109 = .bool x109_26 ∧ Aside0 (word_Sees.j3 kq a1 a2 a3 a4 a5 x20_16 x21_16 x109_26 = some (r1, r2)) ∧ Aside0 (kq ≤ kj21) ∧ Drawn0 w wc)
                  case first =>
                    have H := HC27.out
                    clear HC27
                    by_cases c28 : t115 = 3
                    · rw [if_pos c28] at H
                      have c28b0 : (t115 == 3) = true := beq_iff_eq.mpr c28
                      have c28b1 : (t115 != 3) = false := bne_eq_false_iff_eq.mpr c28
                      clear c28
                      (first | rw [c28b0] | (simp only [i64_w, i32_w]; rw [c28b0]) | skip)
                      by_cases c29 : x21_16 = true
                      · subst c29
                        have H1 : (word_Sees.j3 kj21 a1 a2 a3 a4 a5 x20_16 true false) = some (r1, r2) := by rw [if_pos rfl] at H; exact H
                        clear H
                        have H := H1
                        clear H1
                        have H' := Aside0.mk H
                        clear H
                        go_wp2
                        go_meet
                        case rel => exact ⟨_, (false), (by first | rfl | (simp; done) | (simp [*]; done)), H', ⟨by have := HJ8.out; have := HJ16.out; have := HJ21.out; first | omega | exact Nat.le_refl _⟩, by repeat (first | exact Drawn0.refl _ | apply Drawn0.step)⟩
                      · replace c29 := Bool.eq_false_iff.mpr c29
                        subst c29
                        have H1 : (word_Sees.j3 kj21 a1 a2 a3 a4 a5 x20_16 false (!t124)) = some (r1, r2) := by rw [if_neg (show ¬ (false = true) by decide)] at H; exact H
                        clear H
                        have H := H1
                        clear H1
                        have H' := Aside0.mk H
                        clear H
                        go_wp2
                        go_meet
                        case rel => exact ⟨_, (!t124), (by first | rfl | (simp; done) | (simp [*]; done)), H', ⟨by have := HJ8.out; have := HJ16.out; have := HJ21.out; first | omega | exact Nat.le_refl _⟩, by repeat (first | exact Drawn0.refl _ | apply Drawn0.step)⟩
                    · rw [if_neg c28] at H
                      have c28b0 : (t115 == 3) = false := beq_eq_false_iff_ne.mpr c28
                      have c28b1 : (t115 != 3) = true := bne_iff_ne.mpr c28
                      (first | rw [c28b0] | (simp only [i64_w, i32_w]; rw [c28b0]) | skip)
                      have H' := Aside0.mk H
                      clear H
                      go_wp2
                      go_meet
                      case rel => exact ⟨_, (false), (by first | rfl | (simp; done) | (simp [*]; done)), H', ⟨by have := HJ8.out; have := HJ16.out; have := HJ21.out; first | omega | exact Nat.le_refl _⟩, by repeat (first | exact Drawn0.refl _ | apply Drawn0.step)⟩
                  case rest =>
                    clear HC27
                    try clear c1
                    try clear c2
                    try clear p2
                    try clear c8
                    try clear c10
                    try clear c10b0
                    try clear c11
                    try clear c11b0
                    try clear c13
                    try clear c14
                    try clear c14b0
                    try clear c14b1
                    try clear c15
                    try clear c15b0
                    try clear c15b1
                    try clear c16
                    try clear c18
                    try clear c18b0
                    try clear c18b1
                    try clear c19
                    try clear c19b0
                    try clear c19b1
                    try clear c20
                    try clear c20b0
                    try clear c20b1
                    try clear c21
                    try clear c22
                    try clear c23
                    try clear c23b0
                    try clear c23b1
                    try clear c24
                    try clear c25
                    try clear c28
                    try clear c28b0
                    try clear c28b1
                    try clear c29
                    try clear p2
                    obtain ⟨kq, x109_26, rfl, HA, HJ26, ⟨mc26, rfl⟩⟩ := hcut
                    cases kq with
                    | zero => exact absurd HA.out (by simp [word_Sees.j3])
                    | succ kj26 =>
                      have H := HA.out
                      clear HA
                      simp only [word_Sees.j3] at H
                      by_cases c30 : x109_26 = true
                      · subst c30
                        have H1 : (some (0, 50)) = some (r1, r2) := by rw [if_pos rfl] at H; exact H
                        clear H
                        have H := H1
                        clear H1
                        simp only [Option.some.injEq, Prod.mk.injEq] at H
                        obtain ⟨rfl, rfl⟩ := H
                        go_wp2
                        go_ret2
                        exact ⟨by first | rfl | (simp; done) | (simp [*]; done), by repeat (first | exact Drawn0.refl _ | apply Drawn0.step)⟩
                      · replace c30 := Bool.eq_false_iff.mpr c30
                        subst c30
                        have H1 : (if x20_16 = true then (word_Sees.j4 kj26 a1 a3 a5 x21_16) else ((word_came.f kj26 a2 a4 a1).bind fun t125 => (if t125 = 1 then (word_Sees.j4 kj26 a1 a3 a5 x21_16) else (some (t125, 0))))) = some (r1, r2) := by rw [if_neg (show ¬ (false = true) by decide)] at H; exact H
                        clear H
                        have H := H1
                        clear H1
                        have HC31 := Aside0.mk H
                        clear H
                        go_upto_if 111 with (fail)
                        go_cut [] (fun wc => ∃ (kq : Nat), Aside0 (word_Sees.j4 kq a1 a3 a5 x21_16 = some (r1, r2)) ∧ Aside0 (kq ≤ kj26) ∧ Drawn0 w wc)
                        case first =>
                          have H := HC31.out
                          clear HC31
                          by_cases c32 : x20_16 = true
                          · subst c32
                            have H1 : (word_Sees.j4 kj26 a1 a3 a5 x21_16) = some (r1, r2) := by rw [if_pos rfl] at H; exact H
                            clear H
                            have H := H1
                            clear H1
                            have H' := Aside0.mk H
                            clear H
                            go_wp2
                            go_meet
                            case rel => exact ⟨_, H', ⟨by have := HJ8.out; have := HJ16.out; have := HJ21.out; have := HJ26.out; first | omega | exact Nat.le_refl _⟩, by repeat (first | exact Drawn0.refl _ | apply Drawn0.step)⟩
                          · replace c32 := Bool.eq_false_iff.mpr c32
                            subst c32
                            have H1 : ((word_came.f kj26 a2 a4 a1).bind fun t125 => (if t125 = 1 then (word_Sees.j4 kj26 a1 a3 a5 x21_16) else (some (t125, 0)))) = some (r1, r2) := by rw [if_neg (show ¬ (false = true) by decide)] at H; exact H
                            clear H
                            have H := H1
                            clear H1
                            replace H := Option.bind_eq_some_iff.mp H
                            obtain ⟨t125, A330, H⟩ := H
                            replace H : (if t125 = 1 then (word_Sees.j4 kj26 a1 a3 a5 x21_16) else (some (t125, 0))) = some (r1, r2) := H
                            have A33 := Aside0.mk A330
                            clear A330
                            by_cases c34 : t125 = 1
                            · rw [if_pos c34] at H
                              have c34b0 : (t125 == 1) = true := beq_iff_eq.mpr c34
                              have c34b1 : (t125 != 1) = false := bne_eq_false_iff_eq.mpr c34
                              clear c34
                              (first | rw [c34b0] | (simp only [i64_w, i32_w]; rw [c34b0]) | skip)
                              have H' := Aside0.mk H
                              clear H
                              go_wp2_with (first | ((with_reducible refine gate_callee (f := 24) rfl ?_); refine goesL_ (some 115) rfl rfl Try.func24 (by kernel_rfl) rfl #[.int .u64 a2, .int .u64 a4, .int .i64 a1] rfl (by (try simp only [List.map_toArray, List.map_cons, List.map_nil]); first | done | rfl | (simp only [List.length_drop, List.length_take]; rfl)) ?_; (with_reducible refine (word_came.calls kj26 a2 a4 a1 t125 _ A33.out).mono ?_); rintro e w' ⟨rfl, ⟨nd, rfl⟩⟩; refine ⟨_, rfl, ?_⟩))
                              go_meet
                              case rel => exact ⟨_, H', ⟨by have := HJ8.out; have := HJ16.out; have := HJ21.out; have := HJ26.out; first | omega | exact Nat.le_refl _⟩, by repeat (first | exact Drawn0.refl _ | apply Drawn0.step)⟩
                            · rw [if_neg c34] at H
                              have c34b0 : (t125 == 1) = false := beq_eq_false_iff_ne.mpr c34
                              have c34b1 : (t125 != 1) = true := bne_iff_ne.mpr c34
                              (first | rw [c34b0] | (simp only [i64_w, i32_w]; rw [c34b0]) | skip)
                              simp only [Option.some.injEq, Prod.mk.injEq] at H
                              obtain ⟨rfl, rfl⟩ := H
                              go_wp2_with (first | ((with_reducible refine gate_callee (f := 24) rfl ?_); refine goesL_ (some 115) rfl rfl Try.func24 (by kernel_rfl) rfl #[.int .u64 a2, .int .u64 a4, .int .i64 a1] rfl (by (try simp only [List.map_toArray, List.map_cons, List.map_nil]); first | done | rfl | (simp only [List.length_drop, List.length_take]; rfl)) ?_; (with_reducible refine (word_came.calls kj26 a2 a4 a1 t125 _ A33.out).mono ?_); rintro e w' ⟨rfl, ⟨nd, rfl⟩⟩; refine ⟨_, rfl, ?_⟩))
                              go_ret2
                              exact ⟨by first | rfl | (simp; done) | (simp [*]; done), by repeat (first | exact Drawn0.refl _ | apply Drawn0.step)⟩
                        case rest =>
                          clear HC31
                          try clear c1
                          try clear c2
                          try clear p2
                          try clear c3
                          try clear c8
                          try clear c10
                          try clear c10b0
                          try clear c11
                          try clear c11b0
                          try clear c13
                          try clear c14
                          try clear c14b0
                          try clear c14b1
                          try clear c15
                          try clear c15b0
                          try clear c15b1
                          try clear c16
                          try clear c18
                          try clear c18b0
                          try clear c18b1
                          try clear c19
                          try clear c19b0
                          try clear c19b1
                          try clear c20
                          try clear c20b0
                          try clear c20b1
                          try clear c21
                          try clear c22
                          try clear c23
                          try clear c23b0
                          try clear c23b1
                          try clear c24
                          try clear c25
                          try clear c26
                          try clear c28
                          try clear c28b0
                          try clear c28b1
                          try clear c29
                          try clear c30
                          try clear c32
                          try clear c34
                          try clear c34b0
                          try clear c34b1
                          try clear p2
                          obtain ⟨kq, HA, HJ30, ⟨mc30, rfl⟩⟩ := hcut
                          cases kq with
                          | zero => exact absurd HA.out (by simp [word_Sees.j4])
                          | succ kj30 =>
                            have H := HA.out
                            clear HA
                            simp only [word_Sees.j4] at H
                            by_cases c35 : x21_16 = true
                            · subst c35
                              have H1 : (some (2, 0)) = some (r1, r2) := by rw [if_pos rfl] at H; exact H
                              clear H
                              have H := H1
                              clear H1
                              simp only [Option.some.injEq, Prod.mk.injEq] at H
                              obtain ⟨rfl, rfl⟩ := H
                              go_wp2
                              go_ret2
                              exact ⟨by first | rfl | (simp; done) | (simp [*]; done), by repeat (first | exact Drawn0.refl _ | apply Drawn0.step)⟩
                            · replace c35 := Bool.eq_false_iff.mpr c35
                              subst c35
                              have H1 : ((word_came.f kj30 a3 a5 a1).bind fun t126 => (if t126 = 1 then (some (2, 0)) else (if t126 = 2 then (some (1, 0)) else (some (3, 0))))) = some (r1, r2) := by rw [if_neg (show ¬ (false = true) by decide)] at H; exact H
                              clear H
                              have H := H1
                              clear H1
                              replace H := Option.bind_eq_some_iff.mp H
                              obtain ⟨t126, A360, H⟩ := H
                              replace H : (if t126 = 1 then (some (2, 0)) else (if t126 = 2 then (some (1, 0)) else (some (3, 0)))) = some (r1, r2) := H
                              have A36 := Aside0.mk A360
                              clear A360
                              by_cases c37 : t126 = 1
                              · rw [if_pos c37] at H
                                have c37b0 : (t126 == 1) = true := beq_iff_eq.mpr c37
                                have c37b1 : (t126 != 1) = false := bne_eq_false_iff_eq.mpr c37
                                clear c37
                                simp only [Option.some.injEq, Prod.mk.injEq] at H
                                obtain ⟨rfl, rfl⟩ := H
                                go_wp2_with (first | ((with_reducible refine gate_callee (f := 24) rfl ?_); refine goesL_ (some 123) rfl rfl Try.func24 (by kernel_rfl) rfl #[.int .u64 a3, .int .u64 a5, .int .i64 a1] rfl (by (try simp only [List.map_toArray, List.map_cons, List.map_nil]); first | done | rfl | (simp only [List.length_drop, List.length_take]; rfl)) ?_; (with_reducible refine (word_came.calls kj30 a3 a5 a1 t126 _ A36.out).mono ?_); rintro e w' ⟨rfl, ⟨nd, rfl⟩⟩; refine ⟨_, rfl, ?_⟩))
                                go_ret2
                                exact ⟨by first | rfl | (simp; done) | (simp [*]; done), by repeat (first | exact Drawn0.refl _ | apply Drawn0.step)⟩
                              · rw [if_neg c37] at H
                                have c37b0 : (t126 == 1) = false := beq_eq_false_iff_ne.mpr c37
                                have c37b1 : (t126 != 1) = true := bne_iff_ne.mpr c37
                                by_cases c38 : t126 = 2
                                · rw [if_pos c38] at H
                                  have c38b0 : (t126 == 2) = true := beq_iff_eq.mpr c38
                                  have c38b1 : (t126 != 2) = false := bne_eq_false_iff_eq.mpr c38
                                  clear c38
                                  simp only [Option.some.injEq, Prod.mk.injEq] at H
                                  obtain ⟨rfl, rfl⟩ := H
                                  go_wp2_with (first | ((with_reducible refine gate_callee (f := 24) rfl ?_); refine goesL_ (some 123) rfl rfl Try.func24 (by kernel_rfl) rfl #[.int .u64 a3, .int .u64 a5, .int .i64 a1] rfl (by (try simp only [List.map_toArray, List.map_cons, List.map_nil]); first | done | rfl | (simp only [List.length_drop, List.length_take]; rfl)) ?_; (with_reducible refine (word_came.calls kj30 a3 a5 a1 t126 _ A36.out).mono ?_); rintro e w' ⟨rfl, ⟨nd, rfl⟩⟩; refine ⟨_, rfl, ?_⟩))
                                  go_ret2
                                  exact ⟨by first | rfl | (simp; done) | (simp [*]; done), by repeat (first | exact Drawn0.refl _ | apply Drawn0.step)⟩
                                · rw [if_neg c38] at H
                                  have c38b0 : (t126 == 2) = false := beq_eq_false_iff_ne.mpr c38
                                  have c38b1 : (t126 != 2) = true := bne_iff_ne.mpr c38
                                  simp only [Option.some.injEq, Prod.mk.injEq] at H
                                  obtain ⟨rfl, rfl⟩ := H
                                  go_wp2_with (first | ((with_reducible refine gate_callee (f := 24) rfl ?_); refine goesL_ (some 123) rfl rfl Try.func24 (by kernel_rfl) rfl #[.int .u64 a3, .int .u64 a5, .int .i64 a1] rfl (by (try simp only [List.map_toArray, List.map_cons, List.map_nil]); first | done | rfl | (simp only [List.length_drop, List.length_take]; rfl)) ?_; (with_reducible refine (word_came.calls kj30 a3 a5 a1 t126 _ A36.out).mono ?_); rintro e w' ⟨rfl, ⟨nd, rfl⟩⟩; refine ⟨_, rfl, ?_⟩))
                                  go_ret2
                                  exact ⟨by first | rfl | (simp; done) | (simp [*]; done), by repeat (first | exact Drawn0.refl _ | apply Drawn0.step)⟩

/-! ### varvelaw05_shown: function 9 -/
def varvelaw05_shown.f (k : Nat)  : Option (Bool) := (word_Sees.f k 1 7 5 1099511627776 0 0).bind fun bt127 => (if bt127.1 = 1 then (if bt127.2 = 0 then (some true) else (some false)) else (some false))
theorem varvelaw05_shown.mono : ∀ k, LeO (varvelaw05_shown.f k ) (varvelaw05_shown.f (k + 1) ) := by
  intro  k
  unfold varvelaw05_shown.f
  repeat' first
      | (with_reducible exact word_Sees.mono _ _ _ _ _ _ _)
      | (with_reducible exact LeO.refl _)
      | (with_reducible exact LeO.none _)
      | (with_reducible refine LeO.ite ?_ ?_)
      | (with_reducible refine LeO.bind ?_ (fun _ => ?_))
      | exact word_Sees.mono _ _ _ _ _ _ _
      | exact LeO.none _
      | refine LeO.ite ?_ ?_
      | refine LeO.bind ?_ (fun _ => ?_)
set_option maxHeartbeats 8000000 in
set_option maxRecDepth 100000 in
theorem varvelaw05_shown.calls (k : Nat)  (r : Bool) (w : World) (h : varvelaw05_shown.f k  = some r) :
    Calls Try.prog 9 #[] w fun e w' => e = .returned (.bool r) ∧ Drawn0 w w' := by
  have H : ((word_Sees.f k 1 7 5 1099511627776 0 0).bind fun bt127 => (if bt127.1 = 1 then (if bt127.2 = 0 then (some true) else (some false)) else (some false))) = some r := h
  clear h
  replace H := Option.bind_eq_some_iff.mp H
  obtain ⟨⟨t127, t128⟩, A10, H⟩ := H
  replace H : (if t127 = 1 then (if t128 = 0 then (some true) else (some false)) else (some false)) = some r := H
  have A1 := Aside0.mk A10
  clear A10
  by_cases c2 : t127 = 1
  · rw [if_pos c2] at H
    have c2b0 : (t127 == 1) = true := beq_iff_eq.mpr c2
    have c2b1 : (t127 != 1) = false := bne_eq_false_iff_eq.mpr c2
    clear c2
    by_cases c3 : t128 = 0
    · rw [if_pos c3] at H
      have c3b0 : (t128 == 0) = true := beq_iff_eq.mpr c3
      have c3b1 : (t128 != 0) = false := bne_eq_false_iff_eq.mpr c3
      clear c3
      obtain rfl := Option.some.inj H
      go_enter Try.func9, Try.ntmps9
      go_wp2_with (first | ((with_reducible refine gate_callee (f := 10) rfl ?_); refine goesL_ (some 4) rfl rfl Try.func10 (by kernel_rfl) rfl #[.int .i64 1, .int .i64 7, .int .u64 5, .int .u64 1099511627776, .int .u64 0, .int .u64 0] rfl (by (try simp only [List.map_toArray, List.map_cons, List.map_nil]); first | done | rfl | (simp only [List.length_drop, List.length_take]; rfl)) ?_; (with_reducible refine (word_Sees.calls k 1 7 5 1099511627776 0 0 t127 t128 _ A1.out).mono ?_); rintro e w' ⟨rfl, ⟨nd, rfl⟩⟩; refine ⟨_, rfl, ?_⟩))
      go_ret
      exact ⟨by first | rfl | (simp; done) | (simp [*]; done), by repeat (first | exact Drawn0.refl _ | apply Drawn0.step)⟩
    · rw [if_neg c3] at H
      have c3b0 : (t128 == 0) = false := beq_eq_false_iff_ne.mpr c3
      have c3b1 : (t128 != 0) = true := bne_iff_ne.mpr c3
      obtain rfl := Option.some.inj H
      go_enter Try.func9, Try.ntmps9
      go_wp2_with (first | ((with_reducible refine gate_callee (f := 10) rfl ?_); refine goesL_ (some 4) rfl rfl Try.func10 (by kernel_rfl) rfl #[.int .i64 1, .int .i64 7, .int .u64 5, .int .u64 1099511627776, .int .u64 0, .int .u64 0] rfl (by (try simp only [List.map_toArray, List.map_cons, List.map_nil]); first | done | rfl | (simp only [List.length_drop, List.length_take]; rfl)) ?_; (with_reducible refine (word_Sees.calls k 1 7 5 1099511627776 0 0 t127 t128 _ A1.out).mono ?_); rintro e w' ⟨rfl, ⟨nd, rfl⟩⟩; refine ⟨_, rfl, ?_⟩))
      go_ret
      exact ⟨by first | rfl | (simp; done) | (simp [*]; done), by repeat (first | exact Drawn0.refl _ | apply Drawn0.step)⟩
  · rw [if_neg c2] at H
    have c2b0 : (t127 == 1) = false := beq_eq_false_iff_ne.mpr c2
    have c2b1 : (t127 != 1) = true := bne_iff_ne.mpr c2
    obtain rfl := Option.some.inj H
    go_enter Try.func9, Try.ntmps9
    go_wp2_with (first | ((with_reducible refine gate_callee (f := 10) rfl ?_); refine goesL_ (some 4) rfl rfl Try.func10 (by kernel_rfl) rfl #[.int .i64 1, .int .i64 7, .int .u64 5, .int .u64 1099511627776, .int .u64 0, .int .u64 0] rfl (by (try simp only [List.map_toArray, List.map_cons, List.map_nil]); first | done | rfl | (simp only [List.length_drop, List.length_take]; rfl)) ?_; (with_reducible refine (word_Sees.calls k 1 7 5 1099511627776 0 0 t127 t128 _ A1.out).mono ?_); rintro e w' ⟨rfl, ⟨nd, rfl⟩⟩; refine ⟨_, rfl, ?_⟩))
    go_ret
    exact ⟨by first | rfl | (simp; done) | (simp [*]; done), by repeat (first | exact Drawn0.refl _ | apply Drawn0.step)⟩

/-! ### word_Time: function 12 -/
def word_Time.f (a0 : Int) : Option (Int × Int) := (word_isTime.f a0).bind fun t129 => (if t129 = true then (some (IntKind.u64.wrap (a0), 0)) else (some (0, 50)))
set_option maxHeartbeats 8000000 in
set_option maxRecDepth 100000 in
theorem word_Time.calls (a0 : Int) (r1 : Int) (r2 : Int) (w : World) (h : word_Time.f a0 = some (r1, r2)) :
    Calls Try.prog 12 #[.int .i64 a0] w fun e w' => e = .returned (.tuple #[.int .u64 r1, .int .i64 r2]) ∧ Drawn0 w w' := by
  have H : ((word_isTime.f a0).bind fun t129 => (if t129 = true then (some (IntKind.u64.wrap (a0), 0)) else (some (0, 50)))) = some (r1, r2) := h
  clear h
  replace H := Option.bind_eq_some_iff.mp H
  obtain ⟨t129, A20, H⟩ := H
  replace H : (if t129 = true then (some (IntKind.u64.wrap (a0), 0)) else (some (0, 50))) = some (r1, r2) := H
  have A2 := Aside0.mk A20
  clear A20
  by_cases c3 : t129 = true
  · subst c3
    have H1 : (some (IntKind.u64.wrap (a0), 0)) = some (r1, r2) := by rw [if_pos rfl] at H; exact H
    clear H
    have H := H1
    clear H1
    simp only [Option.some.injEq, Prod.mk.injEq] at H
    obtain ⟨rfl, rfl⟩ := H
    go_enter Try.func12, Try.ntmps12
    go_wp2_with (first | ((with_reducible refine gate_callee (f := 23) rfl ?_); refine goesL_ (some 5) rfl rfl Try.func23 (by kernel_rfl) rfl #[.int .i64 a0] rfl (by (try simp only [List.map_toArray, List.map_cons, List.map_nil]); first | done | rfl | (simp only [List.length_drop, List.length_take]; rfl)) ?_; (with_reducible refine (word_isTime.calls a0 true _ A2.out).mono ?_); rintro e w' ⟨rfl, ⟨nd, rfl⟩⟩; refine ⟨_, rfl, ?_⟩))
    go_ret2
    exact ⟨by first | rfl | (simp; done) | (simp [*]; done), by repeat (first | exact Drawn0.refl _ | apply Drawn0.step)⟩
  · replace c3 := Bool.eq_false_iff.mpr c3
    subst c3
    have H1 : (some (0, 50)) = some (r1, r2) := by rw [if_neg (show ¬ (false = true) by decide)] at H; exact H
    clear H
    have H := H1
    clear H1
    simp only [Option.some.injEq, Prod.mk.injEq] at H
    obtain ⟨rfl, rfl⟩ := H
    go_enter Try.func12, Try.ntmps12
    go_wp2_with (first | ((with_reducible refine gate_callee (f := 23) rfl ?_); refine goesL_ (some 5) rfl rfl Try.func23 (by kernel_rfl) rfl #[.int .i64 a0] rfl (by (try simp only [List.map_toArray, List.map_cons, List.map_nil]); first | done | rfl | (simp only [List.length_drop, List.length_take]; rfl)) ?_; (with_reducible refine (word_isTime.calls a0 false _ A2.out).mono ?_); rintro e w' ⟨rfl, ⟨nd, rfl⟩⟩; refine ⟨_, rfl, ?_⟩))
    go_ret2
    exact ⟨by first | rfl | (simp; done) | (simp [*]; done), by repeat (first | exact Drawn0.refl _ | apply Drawn0.step)⟩

end Go.Proofs.Ytdonoibopbhfoaa.PWordSpan
