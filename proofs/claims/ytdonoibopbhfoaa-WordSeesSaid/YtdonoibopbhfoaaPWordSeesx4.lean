-- PRINTED BY print.sh 35421559b90ae4d0a3588c463048766b98c2df88dd9212a6774a882060cdf62d: not written by this session
import Derived.Test.YtdonoibopbhfoaaPWordSeesx0
import Derived.Test.YtdonoibopbhfoaaPWordSeesx3
namespace Go.Proofs.Ytdonoibopbhfoaa.PWordSees
open Go.RowKit Go.Proofs.YtdonoibopbhfoaaW.PrintWords Go.Proofs.YtdonoibopbhfoaaW.PrintLast Go.Proofs.YtdonoibopbhfoaaW.PrintMore
attribute [local go_sem] max2_int min2_int max_two min_two max_three min_three max_four min_four   -- for this text's walks alone
set_option linter.unusedVariables false
set_option linter.unusedSimpArgs false

/-! ### varveref05_Sees: function 11 -/
mutual
def varveref05_Sees.j0 : Nat → Int → Int → Int → Int → Int → Int → Int → Int → Int → Int → Bool → Option (Int × Int)
  | 0, _, _, _, _, _, _, _, _, _, _, _ => none
  | k + 1, x0, x1, x2, x3, x4, x5, x14, x16, x17, x19, x64 => if x64 = true then (some (0, 50)) else ((varveref05_Unstate.f x4).bind fun bt144 => ((varveref05_Unstate.f x5).bind fun bt147 => (if x14 = 3 then (if x16 = x0 then (if x17 = 3 then (if x19 = x0 then (varveref05_Sees.j1 k x0 x1 x2 x3 x4 x5 x14 x16 x17 x19 false) else (varveref05_Sees.j1 k x0 x1 x2 x3 x4 x5 x14 x16 x17 x19 (!bt147.2.2))) else (varveref05_Sees.j1 k x0 x1 x2 x3 x4 x5 x14 x16 x17 x19 false)) else (if bt144.2.2 = true then (if x17 = 3 then (if x19 = x0 then (varveref05_Sees.j1 k x0 x1 x2 x3 x4 x5 x14 x16 x17 x19 false) else (varveref05_Sees.j1 k x0 x1 x2 x3 x4 x5 x14 x16 x17 x19 (!bt147.2.2))) else (varveref05_Sees.j1 k x0 x1 x2 x3 x4 x5 x14 x16 x17 x19 false)) else (varveref05_Sees.j1 k x0 x1 x2 x3 x4 x5 x14 x16 x17 x19 true))) else (if x17 = 3 then (if x19 = x0 then (varveref05_Sees.j1 k x0 x1 x2 x3 x4 x5 x14 x16 x17 x19 false) else (varveref05_Sees.j1 k x0 x1 x2 x3 x4 x5 x14 x16 x17 x19 (!bt147.2.2))) else (varveref05_Sees.j1 k x0 x1 x2 x3 x4 x5 x14 x16 x17 x19 false)))))
def varveref05_Sees.j1 : Nat → Int → Int → Int → Int → Int → Int → Int → Int → Int → Int → Bool → Option (Int × Int)
  | 0, _, _, _, _, _, _, _, _, _, _, _ => none
  | k + 1, x0, x1, x2, x3, x4, x5, x14, x16, x17, x19, x100 => if x100 = true then (some (0, 50)) else (if x14 = 3 then (varveref05_Sees.j2 k x0 x1 x2 x3 x4 x5 x17 x19 (x16 != x0)) else (varveref05_Sees.j2 k x0 x1 x2 x3 x4 x5 x17 x19 true))
def varveref05_Sees.j2 : Nat → Int → Int → Int → Int → Int → Int → Int → Int → Bool → Option (Int × Int)
  | 0, _, _, _, _, _, _, _, _, _ => none
  | k + 1, x0, x1, x2, x3, x4, x5, x17, x19, x107 => if x107 = true then ((varveref05_came.f k x2 x4 x1).bind fun t150 => (if t150 = 1 then (varveref05_Sees.j3 k x0 x1 x3 x5 x17 x19) else (some (t150, 0)))) else (varveref05_Sees.j3 k x0 x1 x3 x5 x17 x19)
def varveref05_Sees.j3 : Nat → Int → Int → Int → Int → Int → Int → Option (Int × Int)
  | 0, _, _, _, _, _, _ => none
  | k + 1, x0, x1, x3, x5, x17, x19 => if x17 = 3 then (varveref05_Sees.j4 k x1 x3 x5 (x19 == x0)) else (varveref05_Sees.j4 k x1 x3 x5 false)
def varveref05_Sees.j4 : Nat → Int → Int → Int → Bool → Option (Int × Int)
  | 0, _, _, _, _ => none
  | k + 1, x1, x3, x5, x121 => if x121 = true then (some (2, 0)) else ((varveref05_came.f k x3 x5 x1).bind fun t151 => (if t151 = 1 then (some (2, 0)) else (if t151 = 2 then (some (1, 0)) else (some (3, 0)))))
end
def varveref05_Sees.f (k : Nat) (a0 : Int) (a1 : Int) (a2 : Int) (a3 : Int) (a4 : Int) (a5 : Int) : Option (Int × Int) := (varveref05_split.f a2).bind fun bt138 => ((varveref05_split.f a3).bind fun bt141 => (if a0 < 0 then (varveref05_Sees.j0 k a0 a1 a2 a3 a4 a5 bt138.1 bt138.2.2 bt141.1 bt141.2.2 true) else (if a0 ≥ 1048576 then (varveref05_Sees.j0 k a0 a1 a2 a3 a4 a5 bt138.1 bt138.2.2 bt141.1 bt141.2.2 true) else (if a1 < 0 then (varveref05_Sees.j0 k a0 a1 a2 a3 a4 a5 bt138.1 bt138.2.2 bt141.1 bt141.2.2 true) else (if a1 ≥ 1099511627776 then (varveref05_Sees.j0 k a0 a1 a2 a3 a4 a5 bt138.1 bt138.2.2 bt141.1 bt141.2.2 true) else (if bt138.1 = 1 then (varveref05_Sees.j0 k a0 a1 a2 a3 a4 a5 bt138.1 bt138.2.2 bt141.1 bt141.2.2 (bt141.1 == 0)) else (if bt138.1 = 3 then (varveref05_Sees.j0 k a0 a1 a2 a3 a4 a5 bt138.1 bt138.2.2 bt141.1 bt141.2.2 (bt141.1 == 0)) else (varveref05_Sees.j0 k a0 a1 a2 a3 a4 a5 bt138.1 bt138.2.2 bt141.1 bt141.2.2 true))))))))
theorem varveref05_Sees.mono_l : ∀ k, (∀ y0 y1 y2 y3 y4 y5 y6 y7 y8 y9 y10, LeO (varveref05_Sees.j0 k y0 y1 y2 y3 y4 y5 y6 y7 y8 y9 y10) (varveref05_Sees.j0 (k + 1) y0 y1 y2 y3 y4 y5 y6 y7 y8 y9 y10)) ∧ (∀ y0 y1 y2 y3 y4 y5 y6 y7 y8 y9 y10, LeO (varveref05_Sees.j1 k y0 y1 y2 y3 y4 y5 y6 y7 y8 y9 y10) (varveref05_Sees.j1 (k + 1) y0 y1 y2 y3 y4 y5 y6 y7 y8 y9 y10)) ∧ (∀ y0 y1 y2 y3 y4 y5 y6 y7 y8, LeO (varveref05_Sees.j2 k y0 y1 y2 y3 y4 y5 y6 y7 y8) (varveref05_Sees.j2 (k + 1) y0 y1 y2 y3 y4 y5 y6 y7 y8)) ∧ (∀ y0 y1 y2 y3 y4 y5, LeO (varveref05_Sees.j3 k y0 y1 y2 y3 y4 y5) (varveref05_Sees.j3 (k + 1) y0 y1 y2 y3 y4 y5)) ∧ (∀ y0 y1 y2 y3, LeO (varveref05_Sees.j4 k y0 y1 y2 y3) (varveref05_Sees.j4 (k + 1) y0 y1 y2 y3))
  | 0 => ⟨fun _ _ _ _ _ _ _ _ _ _ _ r h => by simp [varveref05_Sees.j0] at h, fun _ _ _ _ _ _ _ _ _ _ _ r h => by simp [varveref05_Sees.j1] at h, fun _ _ _ _ _ _ _ _ _ r h => by simp [varveref05_Sees.j2] at h, fun _ _ _ _ _ _ r h => by simp [varveref05_Sees.j3] at h, fun _ _ _ _ r h => by simp [varveref05_Sees.j4] at h⟩
  | k + 1 => by
    obtain ⟨ih0, ih1, ih2, ih3, ih4⟩ := varveref05_Sees.mono_l k
    refine ⟨?_, ?_, ?_, ?_, ?_⟩
    · intro y0 y1 y2 y3 y4 y5 y6 y7 y8 y9 y10
      unfold varveref05_Sees.j0
      repeat' first
      | (with_reducible exact ih0 _ _ _ _ _ _ _ _ _ _ _)
      | (with_reducible exact ih1 _ _ _ _ _ _ _ _ _ _ _)
      | (with_reducible exact ih2 _ _ _ _ _ _ _ _ _)
      | (with_reducible exact ih3 _ _ _ _ _ _)
      | (with_reducible exact ih4 _ _ _ _)
      | (with_reducible exact varveref05_came.mono _ _ _ _)
      | (with_reducible exact LeO.refl _)
      | (with_reducible exact LeO.none _)
      | (with_reducible refine LeO.ite ?_ ?_)
      | (with_reducible refine LeO.bind ?_ (fun _ => ?_))
      | exact ih0 _ _ _ _ _ _ _ _ _ _ _
      | exact ih1 _ _ _ _ _ _ _ _ _ _ _
      | exact ih2 _ _ _ _ _ _ _ _ _
      | exact ih3 _ _ _ _ _ _
      | exact ih4 _ _ _ _
      | exact varveref05_came.mono _ _ _ _
      | exact LeO.none _
      | refine LeO.ite ?_ ?_
      | refine LeO.bind ?_ (fun _ => ?_)
    · intro y0 y1 y2 y3 y4 y5 y6 y7 y8 y9 y10
      unfold varveref05_Sees.j1
      repeat' first
      | (with_reducible exact ih0 _ _ _ _ _ _ _ _ _ _ _)
      | (with_reducible exact ih1 _ _ _ _ _ _ _ _ _ _ _)
      | (with_reducible exact ih2 _ _ _ _ _ _ _ _ _)
      | (with_reducible exact ih3 _ _ _ _ _ _)
      | (with_reducible exact ih4 _ _ _ _)
      | (with_reducible exact varveref05_came.mono _ _ _ _)
      | (with_reducible exact LeO.refl _)
      | (with_reducible exact LeO.none _)
      | (with_reducible refine LeO.ite ?_ ?_)
      | (with_reducible refine LeO.bind ?_ (fun _ => ?_))
      | exact ih0 _ _ _ _ _ _ _ _ _ _ _
      | exact ih1 _ _ _ _ _ _ _ _ _ _ _
      | exact ih2 _ _ _ _ _ _ _ _ _
      | exact ih3 _ _ _ _ _ _
      | exact ih4 _ _ _ _
      | exact varveref05_came.mono _ _ _ _
      | exact LeO.none _
      | refine LeO.ite ?_ ?_
      | refine LeO.bind ?_ (fun _ => ?_)
    · intro y0 y1 y2 y3 y4 y5 y6 y7 y8
      unfold varveref05_Sees.j2
      repeat' first
      | (with_reducible exact ih0 _ _ _ _ _ _ _ _ _ _ _)
      | (with_reducible exact ih1 _ _ _ _ _ _ _ _ _ _ _)
      | (with_reducible exact ih2 _ _ _ _ _ _ _ _ _)
      | (with_reducible exact ih3 _ _ _ _ _ _)
      | (with_reducible exact ih4 _ _ _ _)
      | (with_reducible exact varveref05_came.mono _ _ _ _)
      | (with_reducible exact LeO.refl _)
      | (with_reducible exact LeO.none _)
      | (with_reducible refine LeO.ite ?_ ?_)
      | (with_reducible refine LeO.bind ?_ (fun _ => ?_))
      | exact ih0 _ _ _ _ _ _ _ _ _ _ _
      | exact ih1 _ _ _ _ _ _ _ _ _ _ _
      | exact ih2 _ _ _ _ _ _ _ _ _
      | exact ih3 _ _ _ _ _ _
      | exact ih4 _ _ _ _
      | exact varveref05_came.mono _ _ _ _
      | exact LeO.none _
      | refine LeO.ite ?_ ?_
      | refine LeO.bind ?_ (fun _ => ?_)
    · intro y0 y1 y2 y3 y4 y5
      unfold varveref05_Sees.j3
      repeat' first
      | (with_reducible exact ih0 _ _ _ _ _ _ _ _ _ _ _)
      | (with_reducible exact ih1 _ _ _ _ _ _ _ _ _ _ _)
      | (with_reducible exact ih2 _ _ _ _ _ _ _ _ _)
      | (with_reducible exact ih3 _ _ _ _ _ _)
      | (with_reducible exact ih4 _ _ _ _)
      | (with_reducible exact varveref05_came.mono _ _ _ _)
      | (with_reducible exact LeO.refl _)
      | (with_reducible exact LeO.none _)
      | (with_reducible refine LeO.ite ?_ ?_)
      | (with_reducible refine LeO.bind ?_ (fun _ => ?_))
      | exact ih0 _ _ _ _ _ _ _ _ _ _ _
      | exact ih1 _ _ _ _ _ _ _ _ _ _ _
      | exact ih2 _ _ _ _ _ _ _ _ _
      | exact ih3 _ _ _ _ _ _
      | exact ih4 _ _ _ _
      | exact varveref05_came.mono _ _ _ _
      | exact LeO.none _
      | refine LeO.ite ?_ ?_
      | refine LeO.bind ?_ (fun _ => ?_)
    · intro y0 y1 y2 y3
      unfold varveref05_Sees.j4
      repeat' first
      | (with_reducible exact ih0 _ _ _ _ _ _ _ _ _ _ _)
      | (with_reducible exact ih1 _ _ _ _ _ _ _ _ _ _ _)
      | (with_reducible exact ih2 _ _ _ _ _ _ _ _ _)
      | (with_reducible exact ih3 _ _ _ _ _ _)
      | (with_reducible exact ih4 _ _ _ _)
      | (with_reducible exact varveref05_came.mono _ _ _ _)
      | (with_reducible exact LeO.refl _)
      | (with_reducible exact LeO.none _)
      | (with_reducible refine LeO.ite ?_ ?_)
      | (with_reducible refine LeO.bind ?_ (fun _ => ?_))
      | exact ih0 _ _ _ _ _ _ _ _ _ _ _
      | exact ih1 _ _ _ _ _ _ _ _ _ _ _
      | exact ih2 _ _ _ _ _ _ _ _ _
      | exact ih3 _ _ _ _ _ _
      | exact ih4 _ _ _ _
      | exact varveref05_came.mono _ _ _ _
      | exact LeO.none _
      | refine LeO.ite ?_ ?_
      | refine LeO.bind ?_ (fun _ => ?_)
theorem varveref05_Sees.mono : ∀ a0 a1 a2 a3 a4 a5 k, LeO (varveref05_Sees.f k a0 a1 a2 a3 a4 a5) (varveref05_Sees.f (k + 1) a0 a1 a2 a3 a4 a5) := by
  intro a0 a1 a2 a3 a4 a5 k
  obtain ⟨ih0, ih1, ih2, ih3, ih4⟩ := varveref05_Sees.mono_l k
  unfold varveref05_Sees.f
  repeat' first
      | (with_reducible exact ih0 _ _ _ _ _ _ _ _ _ _ _)
      | (with_reducible exact ih1 _ _ _ _ _ _ _ _ _ _ _)
      | (with_reducible exact ih2 _ _ _ _ _ _ _ _ _)
      | (with_reducible exact ih3 _ _ _ _ _ _)
      | (with_reducible exact ih4 _ _ _ _)
      | (with_reducible exact varveref05_came.mono _ _ _ _)
      | (with_reducible exact LeO.refl _)
      | (with_reducible exact LeO.none _)
      | (with_reducible refine LeO.ite ?_ ?_)
      | (with_reducible refine LeO.bind ?_ (fun _ => ?_))
      | exact ih0 _ _ _ _ _ _ _ _ _ _ _
      | exact ih1 _ _ _ _ _ _ _ _ _ _ _
      | exact ih2 _ _ _ _ _ _ _ _ _
      | exact ih3 _ _ _ _ _ _
      | exact ih4 _ _ _ _
      | exact varveref05_came.mono _ _ _ _
      | exact LeO.none _
      | refine LeO.ite ?_ ?_
      | refine LeO.bind ?_ (fun _ => ?_)
set_option maxHeartbeats 8000000 in
set_option maxRecDepth 100000 in
theorem varveref05_Sees.calls (k : Nat) (a0 : Int) (a1 : Int) (a2 : Int) (a3 : Int) (a4 : Int) (a5 : Int) (r1 : Int) (r2 : Int) (w : World) (h : varveref05_Sees.f k a0 a1 a2 a3 a4 a5 = some (r1, r2)) :
    Calls Try.prog 11 #[.int .i64 a0, .int .i64 a1, .int .u64 a2, .int .u64 a3, .int .u64 a4, .int .u64 a5] w fun e w' => e = .returned (.tuple #[.int .i64 r1, .int .i64 r2]) ∧ Drawn0 w w' := by
  have H : ((varveref05_split.f a2).bind fun bt138 => ((varveref05_split.f a3).bind fun bt141 => (if a0 < 0 then (varveref05_Sees.j0 k a0 a1 a2 a3 a4 a5 bt138.1 bt138.2.2 bt141.1 bt141.2.2 true) else (if a0 ≥ 1048576 then (varveref05_Sees.j0 k a0 a1 a2 a3 a4 a5 bt138.1 bt138.2.2 bt141.1 bt141.2.2 true) else (if a1 < 0 then (varveref05_Sees.j0 k a0 a1 a2 a3 a4 a5 bt138.1 bt138.2.2 bt141.1 bt141.2.2 true) else (if a1 ≥ 1099511627776 then (varveref05_Sees.j0 k a0 a1 a2 a3 a4 a5 bt138.1 bt138.2.2 bt141.1 bt141.2.2 true) else (if bt138.1 = 1 then (varveref05_Sees.j0 k a0 a1 a2 a3 a4 a5 bt138.1 bt138.2.2 bt141.1 bt141.2.2 (bt141.1 == 0)) else (if bt138.1 = 3 then (varveref05_Sees.j0 k a0 a1 a2 a3 a4 a5 bt138.1 bt138.2.2 bt141.1 bt141.2.2 (bt141.1 == 0)) else (varveref05_Sees.j0 k a0 a1 a2 a3 a4 a5 bt138.1 bt138.2.2 bt141.1 bt141.2.2 true))))))))) = some (r1, r2) := h
  clear h
  replace H := Option.bind_eq_some_iff.mp H
  obtain ⟨⟨t138, t139, t140⟩, A70, H⟩ := H
  replace H : ((varveref05_split.f a3).bind fun bt141 => (if a0 < 0 then (varveref05_Sees.j0 k a0 a1 a2 a3 a4 a5 t138 t140 bt141.1 bt141.2.2 true) else (if a0 ≥ 1048576 then (varveref05_Sees.j0 k a0 a1 a2 a3 a4 a5 t138 t140 bt141.1 bt141.2.2 true) else (if a1 < 0 then (varveref05_Sees.j0 k a0 a1 a2 a3 a4 a5 t138 t140 bt141.1 bt141.2.2 true) else (if a1 ≥ 1099511627776 then (varveref05_Sees.j0 k a0 a1 a2 a3 a4 a5 t138 t140 bt141.1 bt141.2.2 true) else (if t138 = 1 then (varveref05_Sees.j0 k a0 a1 a2 a3 a4 a5 t138 t140 bt141.1 bt141.2.2 (bt141.1 == 0)) else (if t138 = 3 then (varveref05_Sees.j0 k a0 a1 a2 a3 a4 a5 t138 t140 bt141.1 bt141.2.2 (bt141.1 == 0)) else (varveref05_Sees.j0 k a0 a1 a2 a3 a4 a5 t138 t140 bt141.1 bt141.2.2 true)))))))) = some (r1, r2) := H
  have A7 := Aside0.mk A70
  clear A70
  replace H := Option.bind_eq_some_iff.mp H
  obtain ⟨⟨t141, t142, t143⟩, A80, H⟩ := H
  replace H : (if a0 < 0 then (varveref05_Sees.j0 k a0 a1 a2 a3 a4 a5 t138 t140 t141 t143 true) else (if a0 ≥ 1048576 then (varveref05_Sees.j0 k a0 a1 a2 a3 a4 a5 t138 t140 t141 t143 true) else (if a1 < 0 then (varveref05_Sees.j0 k a0 a1 a2 a3 a4 a5 t138 t140 t141 t143 true) else (if a1 ≥ 1099511627776 then (varveref05_Sees.j0 k a0 a1 a2 a3 a4 a5 t138 t140 t141 t143 true) else (if t138 = 1 then (varveref05_Sees.j0 k a0 a1 a2 a3 a4 a5 t138 t140 t141 t143 (t141 == 0)) else (if t138 = 3 then (varveref05_Sees.j0 k a0 a1 a2 a3 a4 a5 t138 t140 t141 t143 (t141 == 0)) else (varveref05_Sees.j0 k a0 a1 a2 a3 a4 a5 t138 t140 t141 t143 true))))))) = some (r1, r2) := H
  have A8 := Aside0.mk A80
  clear A80
  have HC9 := Aside0.mk H
  clear H
  go_enter Try.func11, Try.ntmps11
  go_upto_region 3 with (first | ((with_reducible refine gate_callee (f := 25) rfl ?_); refine goesL_ (some 29) rfl rfl Try.func25 (by kernel_rfl) rfl #[.int .u64 a2] rfl (by (try simp only [List.map_toArray, List.map_cons, List.map_nil]); first | done | rfl | (simp only [List.length_drop, List.length_take]; rfl)) ?_; (with_reducible refine (varveref05_split.calls a2 t138 t139 t140 _ A7.out).mono ?_); rintro e w' ⟨rfl, ⟨nd, rfl⟩⟩; refine ⟨_, rfl, ?_⟩) | ((with_reducible refine gate_callee (f := 25) rfl ?_); refine goesL_ (some 35) rfl rfl Try.func25 (by kernel_rfl) rfl #[.int .u64 a3] rfl (by (try simp only [List.map_toArray, List.map_cons, List.map_nil]); first | done | rfl | (simp only [List.length_drop, List.length_take]; rfl)) ?_; (with_reducible refine (varveref05_split.calls a3 t141 t142 t143 _ A8.out).mono ?_); rintro e w' ⟨rfl, ⟨nd, rfl⟩⟩; refine ⟨_, rfl, ?_⟩))
  (try simp only [Act.put, List.setIfInBounds_toArray, List.set_cons_zero, List.set_cons_succ])
  go_cut [64] (fun v64 wc => ∃ (kq : Nat) (x64_8 : Bool), v64 = .bool x64_8 ∧ Aside0 (varveref05_Sees.j0 kq a0 a1 a2 a3 a4 a5 t138 t140 t141 t143 x64_8 = some (r1, r2)) ∧ Aside0 (kq ≤ k) ∧ Drawn0 w wc)
  case first =>
    have H := HC9.out
    clear HC9
    by_cases c10 : a0 < 0
    · rw [if_pos c10] at H
      have c10b0 : decide (a0 < 0) = true := decide_eq_true c10
      clear c10
      (first | rw [c10b0] | (simp only [i64_w, i32_w]; rw [c10b0]) | skip)
      have H' := Aside0.mk H
      clear H
      go_wp2
      go_meet
      case rel => exact ⟨_, (true), (by first | rfl | (simp; done) | (simp [*]; done)), H', ⟨by first | omega | exact Nat.le_refl _⟩, by repeat (first | exact Drawn0.refl _ | apply Drawn0.step)⟩
    · rw [if_neg c10] at H
      have c10b0 : decide (a0 < 0) = false := decide_eq_false c10
      clear c10
      (first | rw [c10b0] | (simp only [i64_w, i32_w]; rw [c10b0]) | skip)
      by_cases c11 : a0 ≥ 1048576
      · rw [if_pos c11] at H
        have c11b0 : decide (1048576 ≤ a0) = true := decide_eq_true c11
        clear c11
        have H' := Aside0.mk H
        clear H
        go_wp2
        go_meet
        case rel => exact ⟨_, (true), (by first | rfl | (simp; done) | (simp [*]; done)), H', ⟨by first | omega | exact Nat.le_refl _⟩, by repeat (first | exact Drawn0.refl _ | apply Drawn0.step)⟩
      · rw [if_neg c11] at H
        have c11b0 : decide (1048576 ≤ a0) = false := decide_eq_false c11
        clear c11
        by_cases c12 : a1 < 0
        · rw [if_pos c12] at H
          have c12b0 : decide (a1 < 0) = true := decide_eq_true c12
          clear c12
          have H' := Aside0.mk H
          clear H
          go_wp2
          go_meet
          case rel => exact ⟨_, (true), (by first | rfl | (simp; done) | (simp [*]; done)), H', ⟨by first | omega | exact Nat.le_refl _⟩, by repeat (first | exact Drawn0.refl _ | apply Drawn0.step)⟩
        · rw [if_neg c12] at H
          have c12b0 : decide (a1 < 0) = false := decide_eq_false c12
          clear c12
          by_cases c13 : a1 ≥ 1099511627776
          · rw [if_pos c13] at H
            have c13b0 : decide (1099511627776 ≤ a1) = true := decide_eq_true c13
            clear c13
            have H' := Aside0.mk H
            clear H
            go_wp2
            go_meet
            case rel => exact ⟨_, (true), (by first | rfl | (simp; done) | (simp [*]; done)), H', ⟨by first | omega | exact Nat.le_refl _⟩, by repeat (first | exact Drawn0.refl _ | apply Drawn0.step)⟩
          · rw [if_neg c13] at H
            have c13b0 : decide (1099511627776 ≤ a1) = false := decide_eq_false c13
            clear c13
            by_cases c14 : t138 = 1
            · rw [if_pos c14] at H
              have c14b0 : (t138 == 1) = true := beq_iff_eq.mpr c14
              have c14b1 : (t138 != 1) = false := bne_eq_false_iff_eq.mpr c14
              clear c14
              have H' := Aside0.mk H
              clear H
              go_wp2
              go_meet
              case rel => exact ⟨_, ((t141 == 0)), (by first | rfl | (simp; done) | (simp [*]; done)), H', ⟨by first | omega | exact Nat.le_refl _⟩, by repeat (first | exact Drawn0.refl _ | apply Drawn0.step)⟩
            · rw [if_neg c14] at H
              have c14b0 : (t138 == 1) = false := beq_eq_false_iff_ne.mpr c14
              have c14b1 : (t138 != 1) = true := bne_iff_ne.mpr c14
              by_cases c15 : t138 = 3
              · rw [if_pos c15] at H
                have c15b0 : (t138 == 3) = true := beq_iff_eq.mpr c15
                have c15b1 : (t138 != 3) = false := bne_eq_false_iff_eq.mpr c15
                clear c15
                have H' := Aside0.mk H
                clear H
                go_wp2
                go_meet
                case rel => exact ⟨_, ((t141 == 0)), (by first | rfl | (simp; done) | (simp [*]; done)), H', ⟨by first | omega | exact Nat.le_refl _⟩, by repeat (first | exact Drawn0.refl _ | apply Drawn0.step)⟩
              · rw [if_neg c15] at H
                have c15b0 : (t138 == 3) = false := beq_eq_false_iff_ne.mpr c15
                have c15b1 : (t138 != 3) = true := bne_iff_ne.mpr c15
                have H' := Aside0.mk H
                clear H
                go_wp2
                go_meet
                case rel => exact ⟨_, (true), (by first | rfl | (simp; done) | (simp [*]; done)), H', ⟨by first | omega | exact Nat.le_refl _⟩, by repeat (first | exact Drawn0.refl _ | apply Drawn0.step)⟩
  case rest =>
    clear HC9
    try clear c1
    try clear c2
    try clear p2
    try clear c10
    try clear c10b0
    try clear c11
    try clear c11b0
    try clear c12
    try clear c12b0
    try clear c13
    try clear c13b0
    try clear c14
    try clear c14b0
    try clear c14b1
    try clear c15
    try clear c15b0
    try clear c15b1
    obtain ⟨kq, x64_8, rfl, HA, HJ8, ⟨mc8, rfl⟩⟩ := hcut
    cases kq with
    | zero => exact absurd HA.out (by simp [varveref05_Sees.j0])
    | succ kj8 =>
      have H := HA.out
      clear HA
      simp only [varveref05_Sees.j0] at H
      by_cases c16 : x64_8 = true
      · subst c16
        have H1 : (some (0, 50)) = some (r1, r2) := by rw [if_pos rfl] at H; exact H
        clear H
        have H := H1
        clear H1
        simp only [Option.some.injEq, Prod.mk.injEq] at H
        obtain ⟨rfl, rfl⟩ := H
        go_wp2
        go_ret2
        exact ⟨by first | rfl | (simp; done) | (simp [*]; done), by repeat (first | exact Drawn0.refl _ | apply Drawn0.step)⟩
      · replace c16 := Bool.eq_false_iff.mpr c16
        subst c16
        have H1 : ((varveref05_Unstate.f a4).bind fun bt144 => ((varveref05_Unstate.f a5).bind fun bt147 => (if t138 = 3 then (if t140 = a0 then (if t141 = 3 then (if t143 = a0 then (varveref05_Sees.j1 kj8 a0 a1 a2 a3 a4 a5 t138 t140 t141 t143 false) else (varveref05_Sees.j1 kj8 a0 a1 a2 a3 a4 a5 t138 t140 t141 t143 (!bt147.2.2))) else (varveref05_Sees.j1 kj8 a0 a1 a2 a3 a4 a5 t138 t140 t141 t143 false)) else (if bt144.2.2 = true then (if t141 = 3 then (if t143 = a0 then (varveref05_Sees.j1 kj8 a0 a1 a2 a3 a4 a5 t138 t140 t141 t143 false) else (varveref05_Sees.j1 kj8 a0 a1 a2 a3 a4 a5 t138 t140 t141 t143 (!bt147.2.2))) else (varveref05_Sees.j1 kj8 a0 a1 a2 a3 a4 a5 t138 t140 t141 t143 false)) else (varveref05_Sees.j1 kj8 a0 a1 a2 a3 a4 a5 t138 t140 t141 t143 true))) else (if t141 = 3 then (if t143 = a0 then (varveref05_Sees.j1 kj8 a0 a1 a2 a3 a4 a5 t138 t140 t141 t143 false) else (varveref05_Sees.j1 kj8 a0 a1 a2 a3 a4 a5 t138 t140 t141 t143 (!bt147.2.2))) else (varveref05_Sees.j1 kj8 a0 a1 a2 a3 a4 a5 t138 t140 t141 t143 false))))) = some (r1, r2) := by rw [if_neg (show ¬ (false = true) by decide)] at H; exact H
        clear H
        have H := H1
        clear H1
        replace H := Option.bind_eq_some_iff.mp H
        obtain ⟨⟨t144, t145, t146⟩, A170, H⟩ := H
        replace H : ((varveref05_Unstate.f a5).bind fun bt147 => (if t138 = 3 then (if t140 = a0 then (if t141 = 3 then (if t143 = a0 then (varveref05_Sees.j1 kj8 a0 a1 a2 a3 a4 a5 t138 t140 t141 t143 false) else (varveref05_Sees.j1 kj8 a0 a1 a2 a3 a4 a5 t138 t140 t141 t143 (!bt147.2.2))) else (varveref05_Sees.j1 kj8 a0 a1 a2 a3 a4 a5 t138 t140 t141 t143 false)) else (if t146 = true then (if t141 = 3 then (if t143 = a0 then (varveref05_Sees.j1 kj8 a0 a1 a2 a3 a4 a5 t138 t140 t141 t143 false) else (varveref05_Sees.j1 kj8 a0 a1 a2 a3 a4 a5 t138 t140 t141 t143 (!bt147.2.2))) else (varveref05_Sees.j1 kj8 a0 a1 a2 a3 a4 a5 t138 t140 t141 t143 false)) else (varveref05_Sees.j1 kj8 a0 a1 a2 a3 a4 a5 t138 t140 t141 t143 true))) else (if t141 = 3 then (if t143 = a0 then (varveref05_Sees.j1 kj8 a0 a1 a2 a3 a4 a5 t138 t140 t141 t143 false) else (varveref05_Sees.j1 kj8 a0 a1 a2 a3 a4 a5 t138 t140 t141 t143 (!bt147.2.2))) else (varveref05_Sees.j1 kj8 a0 a1 a2 a3 a4 a5 t138 t140 t141 t143 false)))) = some (r1, r2) := H
        have A17 := Aside0.mk A170
        clear A170
        replace H := Option.bind_eq_some_iff.mp H
        obtain ⟨⟨t147, t148, t149⟩, A180, H⟩ := H
        replace H : (if t138 = 3 then (if t140 = a0 then (if t141 = 3 then (if t143 = a0 then (varveref05_Sees.j1 kj8 a0 a1 a2 a3 a4 a5 t138 t140 t141 t143 false) else (varveref05_Sees.j1 kj8 a0 a1 a2 a3 a4 a5 t138 t140 t141 t143 (!t149))) else (varveref05_Sees.j1 kj8 a0 a1 a2 a3 a4 a5 t138 t140 t141 t143 false)) else (if t146 = true then (if t141 = 3 then (if t143 = a0 then (varveref05_Sees.j1 kj8 a0 a1 a2 a3 a4 a5 t138 t140 t141 t143 false) else (varveref05_Sees.j1 kj8 a0 a1 a2 a3 a4 a5 t138 t140 t141 t143 (!t149))) else (varveref05_Sees.j1 kj8 a0 a1 a2 a3 a4 a5 t138 t140 t141 t143 false)) else (varveref05_Sees.j1 kj8 a0 a1 a2 a3 a4 a5 t138 t140 t141 t143 true))) else (if t141 = 3 then (if t143 = a0 then (varveref05_Sees.j1 kj8 a0 a1 a2 a3 a4 a5 t138 t140 t141 t143 false) else (varveref05_Sees.j1 kj8 a0 a1 a2 a3 a4 a5 t138 t140 t141 t143 (!t149))) else (varveref05_Sees.j1 kj8 a0 a1 a2 a3 a4 a5 t138 t140 t141 t143 false))) = some (r1, r2) := H
        have A18 := Aside0.mk A180
        clear A180
        have HC19 := Aside0.mk H
        clear H
        go_upto_region 7 with (first | ((with_reducible refine gate_callee (f := 21) rfl ?_); refine goesL_ (some 67) rfl rfl Try.func21 (by kernel_rfl) rfl #[.int .u64 a4] rfl (by (try simp only [List.map_toArray, List.map_cons, List.map_nil]); first | done | rfl | (simp only [List.length_drop, List.length_take]; rfl)) ?_; (with_reducible refine (varveref05_Unstate.calls a4 t144 t145 t146 _ A17.out).mono ?_); rintro e w' ⟨rfl, ⟨nd, rfl⟩⟩; refine ⟨_, rfl, ?_⟩) | ((with_reducible refine gate_callee (f := 21) rfl ?_); refine goesL_ (some 73) rfl rfl Try.func21 (by kernel_rfl) rfl #[.int .u64 a5] rfl (by (try simp only [List.map_toArray, List.map_cons, List.map_nil]); first | done | rfl | (simp only [List.length_drop, List.length_take]; rfl)) ?_; (with_reducible refine (varveref05_Unstate.calls a5 t147 t148 t149 _ A18.out).mono ?_); rintro e w' ⟨rfl, ⟨nd, rfl⟩⟩; refine ⟨_, rfl, ?_⟩))
        (try simp only [Act.put, List.setIfInBounds_toArray, List.set_cons_zero, List.set_cons_succ])
        go_cut [100] (fun v100 wc => ∃ (kq : Nat) (x100_18 : Bool), v100 = .bool x100_18 ∧ Aside0 (varveref05_Sees.j1 kq a0 a1 a2 a3 a4 a5 t138 t140 t141 t143 x100_18 = some (r1, r2)) ∧ Aside0 (kq ≤ kj8) ∧ Drawn0 w wc)
        case first =>
          have H := HC19.out
          clear HC19
          by_cases c20 : t138 = 3
          · rw [if_pos c20] at H
            have c20b0 : (t138 == 3) = true := beq_iff_eq.mpr c20
            have c20b1 : (t138 != 3) = false := bne_eq_false_iff_eq.mpr c20
            clear c20
            (first | rw [c20b0] | (simp only [i64_w, i32_w]; rw [c20b0]) | skip)
            by_cases c21 : t140 = a0
            · rw [if_pos c21] at H
              have c21b0 : (t140 == a0) = true := beq_iff_eq.mpr c21
              have c21b1 : (t140 != a0) = false := bne_eq_false_iff_eq.mpr c21
              clear c21
              by_cases c22 : t141 = 3
              · rw [if_pos c22] at H
                have c22b0 : (t141 == 3) = true := beq_iff_eq.mpr c22
                have c22b1 : (t141 != 3) = false := bne_eq_false_iff_eq.mpr c22
                clear c22
                by_cases c23 : t143 = a0
                · rw [if_pos c23] at H
                  have c23b0 : (t143 == a0) = true := beq_iff_eq.mpr c23
                  have c23b1 : (t143 != a0) = false := bne_eq_false_iff_eq.mpr c23
                  clear c23
                  have H' := Aside0.mk H
                  clear H
                  go_wp2
                  go_meet
                  case rel => exact ⟨_, (false), (by first | rfl | (simp; done) | (simp [*]; done)), H', ⟨by have := HJ8.out; first | omega | exact Nat.le_refl _⟩, by repeat (first | exact Drawn0.refl _ | apply Drawn0.step)⟩
                · rw [if_neg c23] at H
                  have c23b0 : (t143 == a0) = false := beq_eq_false_iff_ne.mpr c23
                  have c23b1 : (t143 != a0) = true := bne_iff_ne.mpr c23
                  have H' := Aside0.mk H
                  clear H
                  go_wp2
                  go_meet
                  case rel => exact ⟨_, (!t149), (by first | rfl | (simp; done) | (simp [*]; done)), H', ⟨by have := HJ8.out; first | omega | exact Nat.le_refl _⟩, by repeat (first | exact Drawn0.refl _ | apply Drawn0.step)⟩
              · rw [if_neg c22] at H
                have c22b0 : (t141 == 3) = false := beq_eq_false_iff_ne.mpr c22
                have c22b1 : (t141 != 3) = true := bne_iff_ne.mpr c22
                have H' := Aside0.mk H
                clear H
                go_wp2
                go_meet
                case rel => exact ⟨_, (false), (by first | rfl | (simp; done) | (simp [*]; done)), H', ⟨by have := HJ8.out; first | omega | exact Nat.le_refl _⟩, by repeat (first | exact Drawn0.refl _ | apply Drawn0.step)⟩
            · rw [if_neg c21] at H
              have c21b0 : (t140 == a0) = false := beq_eq_false_iff_ne.mpr c21
              have c21b1 : (t140 != a0) = true := bne_iff_ne.mpr c21
              by_cases c24 : t146 = true
              · subst c24
                have H1 : (if t141 = 3 then (if t143 = a0 then (varveref05_Sees.j1 kj8 a0 a1 a2 a3 a4 a5 t138 t140 t141 t143 false) else (varveref05_Sees.j1 kj8 a0 a1 a2 a3 a4 a5 t138 t140 t141 t143 (!t149))) else (varveref05_Sees.j1 kj8 a0 a1 a2 a3 a4 a5 t138 t140 t141 t143 false)) = some (r1, r2) := by rw [if_pos rfl] at H; exact H
                clear H
                have H := H1
                clear H1
                by_cases c25 : t141 = 3
                · rw [if_pos c25] at H
                  have c25b0 : (t141 == 3) = true := beq_iff_eq.mpr c25
                  have c25b1 : (t141 != 3) = false := bne_eq_false_iff_eq.mpr c25
                  clear c25
                  by_cases c26 : t143 = a0
                  · rw [if_pos c26] at H
                    have c26b0 : (t143 == a0) = true := beq_iff_eq.mpr c26
                    have c26b1 : (t143 != a0) = false := bne_eq_false_iff_eq.mpr c26
                    clear c26
                    have H' := Aside0.mk H
                    clear H
                    go_wp2
                    go_meet
                    case rel => exact ⟨_, (false), (by first | rfl | (simp; done) | (simp [*]; done)), H', ⟨by have := HJ8.out; first | omega | exact Nat.le_refl _⟩, by repeat (first | exact Drawn0.refl _ | apply Drawn0.step)⟩
                  · rw [if_neg c26] at H
                    have c26b0 : (t143 == a0) = false := beq_eq_false_iff_ne.mpr c26
                    have c26b1 : (t143 != a0) = true := bne_iff_ne.mpr c26
                    have H' := Aside0.mk H
                    clear H
                    go_wp2
                    go_meet
                    case rel => exact ⟨_, (!t149), (by first | rfl | (simp; done) | (simp [*]; done)), H', ⟨by have := HJ8.out; first | omega | exact Nat.le_refl _⟩, by repeat (first | exact Drawn0.refl _ | apply Drawn0.step)⟩
                · rw [if_neg c25] at H
                  have c25b0 : (t141 == 3) = false := beq_eq_false_iff_ne.mpr c25
                  have c25b1 : (t141 != 3) = true := bne_iff_ne.mpr c25
                  have H' := Aside0.mk H
                  clear H
                  go_wp2
                  go_meet
                  case rel => exact ⟨_, (false), (by first | rfl | (simp; done) | (simp [*]; done)), H', ⟨by have := HJ8.out; first | omega | exact Nat.le_refl _⟩, by repeat (first | exact Drawn0.refl _ | apply Drawn0.step)⟩
              · replace c24 := Bool.eq_false_iff.mpr c24
                subst c24
                have H1 : (varveref05_Sees.j1 kj8 a0 a1 a2 a3 a4 a5 t138 t140 t141 t143 true) = some (r1, r2) := by rw [if_neg (show ¬ (false = true) by decide)] at H; exact H
                clear H
                have H := H1
                clear H1
                have H' := Aside0.mk H
                clear H
                go_wp2
                go_meet
                case rel => exact ⟨_, (true), (by first | rfl | (simp; done) | (simp [*]; done)), H', ⟨by have := HJ8.out; first | omega | exact Nat.le_refl _⟩, by repeat (first | exact Drawn0.refl _ | apply Drawn0.step)⟩
          · rw [if_neg c20] at H
            have c20b0 : (t138 == 3) = false := beq_eq_false_iff_ne.mpr c20
            have c20b1 : (t138 != 3) = true := bne_iff_ne.mpr c20
            (first | rw [c20b0] | (simp only [i64_w, i32_w]; rw [c20b0]) | skip)
            by_cases c27 : t141 = 3
            · rw [if_pos c27] at H
              have c27b0 : (t141 == 3) = true := beq_iff_eq.mpr c27
              have c27b1 : (t141 != 3) = false := bne_eq_false_iff_eq.mpr c27
              clear c27
              by_cases c28 : t143 = a0
              · rw [if_pos c28] at H
                have c28b0 : (t143 == a0) = true := beq_iff_eq.mpr c28
                have c28b1 : (t143 != a0) = false := bne_eq_false_iff_eq.mpr c28
                clear c28
                have H' := Aside0.mk H
                clear H
                go_wp2
                go_meet
                case rel => exact ⟨_, (false), (by first | rfl | (simp; done) | (simp [*]; done)), H', ⟨by have := HJ8.out; first | omega | exact Nat.le_refl _⟩, by repeat (first | exact Drawn0.refl _ | apply Drawn0.step)⟩
              · rw [if_neg c28] at H
                have c28b0 : (t143 == a0) = false := beq_eq_false_iff_ne.mpr c28
                have c28b1 : (t143 != a0) = true := bne_iff_ne.mpr c28
                have H' := Aside0.mk H
                clear H
                go_wp2
                go_meet
                case rel => exact ⟨_, (!t149), (by first | rfl | (simp; done) | (simp [*]; done)), H', ⟨by have := HJ8.out; first | omega | exact Nat.le_refl _⟩, by repeat (first | exact Drawn0.refl _ | apply Drawn0.step)⟩
            · rw [if_neg c27] at H
              have c27b0 : (t141 == 3) = false := beq_eq_false_iff_ne.mpr c27
              have c27b1 : (t141 != 3) = true := bne_iff_ne.mpr c27
              have H' := Aside0.mk H
              clear H
              go_wp2
              go_meet
              case rel => exact ⟨_, (false), (by first | rfl | (simp; done) | (simp [*]; done)), H', ⟨by have := HJ8.out; first | omega | exact Nat.le_refl _⟩, by repeat (first | exact Drawn0.refl _ | apply Drawn0.step)⟩
        case rest =>
          clear HC19
          try clear c1
          try clear c2
          try clear p2
          try clear c8
          try clear c10
          try clear c10b0
          try clear c11
          try clear c11b0
          try clear c12
          try clear c12b0
          try clear c13
          try clear c13b0
          try clear c14
          try clear c14b0
          try clear c14b1
          try clear c15
          try clear c15b0
          try clear c15b1
          try clear c16
          try clear c20
          try clear c20b0
          try clear c20b1
          try clear c21
          try clear c21b0
          try clear c21b1
          try clear c22
          try clear c22b0
          try clear c22b1
          try clear c23
          try clear c23b0
          try clear c23b1
          try clear c24
          try clear c25
          try clear c25b0
          try clear c25b1
          try clear c26
          try clear c26b0
          try clear c26b1
          try clear c27
          try clear c27b0
          try clear c27b1
          try clear c28
          try clear c28b0
          try clear c28b1
          try clear p2
          obtain ⟨kq, x100_18, rfl, HA, HJ18, ⟨mc18, rfl⟩⟩ := hcut
          cases kq with
          | zero => exact absurd HA.out (by simp [varveref05_Sees.j1])
          | succ kj18 =>
            have H := HA.out
            clear HA
            simp only [varveref05_Sees.j1] at H
            by_cases c29 : x100_18 = true
            · subst c29
              have H1 : (some (0, 50)) = some (r1, r2) := by rw [if_pos rfl] at H; exact H
              clear H
              have H := H1
              clear H1
              simp only [Option.some.injEq, Prod.mk.injEq] at H
              obtain ⟨rfl, rfl⟩ := H
              go_wp2
              go_ret2
              exact ⟨by first | rfl | (simp; done) | (simp [*]; done), by repeat (first | exact Drawn0.refl _ | apply Drawn0.step)⟩
            · replace c29 := Bool.eq_false_iff.mpr c29
              subst c29
              have H1 : (if t138 = 3 then (varveref05_Sees.j2 kj18 a0 a1 a2 a3 a4 a5 t141 t143 (t140 != a0)) else (varveref05_Sees.j2 kj18 a0 a1 a2 a3 a4 a5 t141 t143 true)) = some (r1, r2) := by rw [if_neg (show ¬ (false = true) by decide)] at H; exact H
              clear H
              have H := H1
              clear H1
              have HC30 := Aside0.mk H
              clear H
              go_upto_region 9 with (fail)
              go_cut [107] (fun v107 wc => ∃ (kq : Nat) (x107_29 : Bool), v107 = .bool x107_29 ∧ Aside0 (varveref05_Sees.j2 kq a0 a1 a2 a3 a4 a5 t141 t143 x107_29 = some (r1, r2)) ∧ Aside0 (kq ≤ kj18) ∧ Drawn0 w wc)
              case first =>
                have H := HC30.out
                clear HC30
                by_cases c31 : t138 = 3
                · rw [if_pos c31] at H
                  have c31b0 : (t138 == 3) = true := beq_iff_eq.mpr c31
                  have c31b1 : (t138 != 3) = false := bne_eq_false_iff_eq.mpr c31
                  clear c31
                  (first | rw [c31b0] | (simp only [i64_w, i32_w]; rw [c31b0]) | skip)
                  have H' := Aside0.mk H
                  clear H
                  go_wp2
                  go_meet
                  case rel => exact ⟨_, ((t140 != a0)), (by first | rfl | (simp; done) | (simp [*]; done)), H', ⟨by have := HJ8.out; have := HJ18.out; first | omega | exact Nat.le_refl _⟩, by repeat (first | exact Drawn0.refl _ | apply Drawn0.step)⟩
                · rw [if_neg c31] at H
                  have c31b0 : (t138 == 3) = false := beq_eq_false_iff_ne.mpr c31
                  have c31b1 : (t138 != 3) = true := bne_iff_ne.mpr c31
                  (first | rw [c31b0] | (simp only [i64_w, i32_w]; rw [c31b0]) | skip)
                  have H' := Aside0.mk H
                  clear H
                  go_wp2
                  go_meet
                  case rel => exact ⟨_, (true), (by first | rfl | (simp; done) | (simp [*]; done)), H', ⟨by have := HJ8.out; have := HJ18.out; first | omega | exact Nat.le_refl _⟩, by repeat (first | exact Drawn0.refl _ | apply Drawn0.step)⟩
              case rest =>
                clear HC30
                try clear c1
                try clear c2
                try clear p2
                try clear c3
                try clear c8
                try clear c10
                try clear c10b0
                try clear c11
                try clear c11b0
                try clear c12
                try clear c12b0
                try clear c13
                try clear c13b0
                try clear c14
                try clear c14b0
                try clear c14b1
                try clear c15
                try clear c15b0
                try clear c15b1
                try clear c16
                try clear c18
                try clear c20
                try clear c20b0
                try clear c20b1
                try clear c21
                try clear c21b0
                try clear c21b1
                try clear c22
                try clear c22b0
                try clear c22b1
                try clear c23
                try clear c23b0
                try clear c23b1
                try clear c24
                try clear c25
                try clear c25b0
                try clear c25b1
                try clear c26
                try clear c26b0
                try clear c26b1
                try clear c27
                try clear c27b0
                try clear c27b1
                try clear c28
                try clear c28b0
                try clear c28b1
                try clear c29
                try clear c31
                try clear c31b0
                try clear c31b1
                try clear p2
                obtain ⟨kq, x107_29, rfl, HA, HJ29, ⟨mc29, rfl⟩⟩ := hcut
                cases kq with
                | zero => exact absurd HA.out (by simp [varveref05_Sees.j2])
                | succ kj29 =>
                  have H := HA.out
                  clear HA
                  simp only [varveref05_Sees.j2] at H
                  have HC32 := Aside0.mk H
                  clear H
                  go_upto_if 107 with (fail)
                  go_cut [] (fun wc => ∃ (kq : Nat), Aside0 (varveref05_Sees.j3 kq a0 a1 a3 a5 t141 t143 = some (r1, r2)) ∧ Aside0 (kq ≤ kj29) ∧ Drawn0 w wc)
                  case first =>
                    have H := HC32.out
                    clear HC32
                    by_cases c33 : x107_29 = true
                    · subst c33
                      have H1 : ((varveref05_came.f kj29 a2 a4 a1).bind fun t150 => (if t150 = 1 then (varveref05_Sees.j3 kj29 a0 a1 a3 a5 t141 t143) else (some (t150, 0)))) = some (r1, r2) := by rw [if_pos rfl] at H; exact H
                      clear H
                      have H := H1
                      clear H1
                      replace H := Option.bind_eq_some_iff.mp H
                      obtain ⟨t150, A340, H⟩ := H
                      replace H : (if t150 = 1 then (varveref05_Sees.j3 kj29 a0 a1 a3 a5 t141 t143) else (some (t150, 0))) = some (r1, r2) := H
                      have A34 := Aside0.mk A340
                      clear A340
                      by_cases c35 : t150 = 1
                      · rw [if_pos c35] at H
                        have c35b0 : (t150 == 1) = true := beq_iff_eq.mpr c35
                        have c35b1 : (t150 != 1) = false := bne_eq_false_iff_eq.mpr c35
                        clear c35
                        (first | rw [c35b0] | (simp only [i64_w, i32_w]; rw [c35b0]) | skip)
                        have H' := Aside0.mk H
                        clear H
                        go_wp2_with (first | ((with_reducible refine gate_callee (f := 26) rfl ?_); refine goesL_ (some 111) rfl rfl Try.func26 (by kernel_rfl) rfl #[.int .u64 a2, .int .u64 a4, .int .i64 a1] rfl (by (try simp only [List.map_toArray, List.map_cons, List.map_nil]); first | done | rfl | (simp only [List.length_drop, List.length_take]; rfl)) ?_; (with_reducible refine (varveref05_came.calls kj29 a2 a4 a1 t150 _ A34.out).mono ?_); rintro e w' ⟨rfl, ⟨nd, rfl⟩⟩; refine ⟨_, rfl, ?_⟩))
                        go_meet
                        case rel => exact ⟨_, H', ⟨by have := HJ8.out; have := HJ18.out; have := HJ29.out; first | omega | exact Nat.le_refl _⟩, by repeat (first | exact Drawn0.refl _ | apply Drawn0.step)⟩
                      · rw [if_neg c35] at H
                        have c35b0 : (t150 == 1) = false := beq_eq_false_iff_ne.mpr c35
                        have c35b1 : (t150 != 1) = true := bne_iff_ne.mpr c35
                        (first | rw [c35b0] | (simp only [i64_w, i32_w]; rw [c35b0]) | skip)
                        simp only [Option.some.injEq, Prod.mk.injEq] at H
                        obtain ⟨rfl, rfl⟩ := H
                        go_wp2_with (first | ((with_reducible refine gate_callee (f := 26) rfl ?_); refine goesL_ (some 111) rfl rfl Try.func26 (by kernel_rfl) rfl #[.int .u64 a2, .int .u64 a4, .int .i64 a1] rfl (by (try simp only [List.map_toArray, List.map_cons, List.map_nil]); first | done | rfl | (simp only [List.length_drop, List.length_take]; rfl)) ?_; (with_reducible refine (varveref05_came.calls kj29 a2 a4 a1 t150 _ A34.out).mono ?_); rintro e w' ⟨rfl, ⟨nd, rfl⟩⟩; refine ⟨_, rfl, ?_⟩))
                        go_ret2
                        exact ⟨by first | rfl | (simp; done) | (simp [*]; done), by repeat (first | exact Drawn0.refl _ | apply Drawn0.step)⟩
                    · replace c33 := Bool.eq_false_iff.mpr c33
                      subst c33
                      have H1 : (varveref05_Sees.j3 kj29 a0 a1 a3 a5 t141 t143) = some (r1, r2) := by rw [if_neg (show ¬ (false = true) by decide)] at H; exact H
                      clear H
                      have H := H1
                      clear H1
                      have H' := Aside0.mk H
                      clear H
                      go_wp2
                      go_meet
                      case rel => exact ⟨_, H', ⟨by have := HJ8.out; have := HJ18.out; have := HJ29.out; first | omega | exact Nat.le_refl _⟩, by repeat (first | exact Drawn0.refl _ | apply Drawn0.step)⟩
                  case rest =>
                    clear HC32
                    try clear c1
                    try clear c2
                    try clear p2
                    try clear c3
                    try clear c8
                    try clear c10
                    try clear c10b0
                    try clear c11
                    try clear c11b0
                    try clear c12
                    try clear c12b0
                    try clear c13
                    try clear c13b0
                    try clear c14
                    try clear c14b0
                    try clear c14b1
                    try clear c15
                    try clear c15b0
                    try clear c15b1
                    try clear c16
                    try clear c18
                    try clear c20
                    try clear c20b0
                    try clear c20b1
                    try clear c21
                    try clear c21b0
                    try clear c21b1
                    try clear c22
                    try clear c22b0
                    try clear c22b1
                    try clear c23
                    try clear c23b0
                    try clear c23b1
                    try clear c24
                    try clear c25
                    try clear c25b0
                    try clear c25b1
                    try clear c26
                    try clear c26b0
                    try clear c26b1
                    try clear c27
                    try clear c27b0
                    try clear c27b1
                    try clear c28
                    try clear c28b0
                    try clear c28b1
                    try clear c29
                    try clear c31
                    try clear c31b0
                    try clear c31b1
                    try clear c33
                    try clear c35
                    try clear c35b0
                    try clear c35b1
                    try clear p2
                    obtain ⟨kq, HA, HJ31, ⟨mc31, rfl⟩⟩ := hcut
                    cases kq with
                    | zero => exact absurd HA.out (by simp [varveref05_Sees.j3])
                    | succ kj31 =>
                      have H := HA.out
                      clear HA
                      simp only [varveref05_Sees.j3] at H
                      have HC36 := Aside0.mk H
                      clear H
                      go_upto_region 13 with (fail)
                      go_cut [121] (fun v121 wc => ∃ (kq : Nat) (x121_35 : Bool), v121 = .bool x121_35 ∧ Aside0 (varveref05_Sees.j4 kq a1 a3 a5 x121_35 = some (r1, r2)) ∧ Aside0 (kq ≤ kj31) ∧ Drawn0 w wc)
                      case first =>
                        have H := HC36.out
                        clear HC36
                        by_cases c37 : t141 = 3
                        · rw [if_pos c37] at H
                          have c37b0 : (t141 == 3) = true := beq_iff_eq.mpr c37
                          have c37b1 : (t141 != 3) = false := bne_eq_false_iff_eq.mpr c37
                          clear c37
                          (first | rw [c37b0] | (simp only [i64_w, i32_w]; rw [c37b0]) | skip)
                          have H' := Aside0.mk H
                          clear H
                          go_wp2
                          go_meet
                          case rel => exact ⟨_, ((t143 == a0)), (by first | rfl | (simp; done) | (simp [*]; done)), H', ⟨by have := HJ8.out; have := HJ18.out; have := HJ29.out; have := HJ31.out; first | omega | exact Nat.le_refl _⟩, by repeat (first | exact Drawn0.refl _ | apply Drawn0.step)⟩
                        · rw [if_neg c37] at H
                          have c37b0 : (t141 == 3) = false := beq_eq_false_iff_ne.mpr c37
                          have c37b1 : (t141 != 3) = true := bne_iff_ne.mpr c37
                          (first | rw [c37b0] | (simp only [i64_w, i32_w]; rw [c37b0]) | skip)
                          have H' := Aside0.mk H
                          clear H
                          go_wp2
                          go_meet
                          case rel => exact ⟨_, (false), (by first | rfl | (simp; done) | (simp [*]; done)), H', ⟨by have := HJ8.out; have := HJ18.out; have := HJ29.out; have := HJ31.out; first | omega | exact Nat.le_refl _⟩, by repeat (first | exact Drawn0.refl _ | apply Drawn0.step)⟩
                      case rest =>
                        clear HC36
                        try clear c1
                        try clear c2
                        try clear p2
                        try clear c3
                        try clear c8
                        try clear c10
                        try clear c10b0
                        try clear c11
                        try clear c11b0
                        try clear c12
                        try clear c12b0
                        try clear c13
                        try clear c13b0
                        try clear c14
                        try clear c14b0
                        try clear c14b1
                        try clear c15
                        try clear c15b0
                        try clear c15b1
                        try clear c16
                        try clear c18
                        try clear c20
                        try clear c20b0
                        try clear c20b1
                        try clear c21
                        try clear c21b0
                        try clear c21b1
                        try clear c22
                        try clear c22b0
                        try clear c22b1
                        try clear c23
                        try clear c23b0
                        try clear c23b1
                        try clear c24
                        try clear c25
                        try clear c25b0
                        try clear c25b1
                        try clear c26
                        try clear c26b0
                        try clear c26b1
                        try clear c27
                        try clear c27b0
                        try clear c27b1
                        try clear c28
                        try clear c28b0
                        try clear c28b1
                        try clear c29
                        try clear c31
                        try clear c31b0
                        try clear c31b1
                        try clear c33
                        try clear c35
                        try clear c35b0
                        try clear c35b1
                        try clear c37
                        try clear c37b0
                        try clear c37b1
                        try clear p2
                        obtain ⟨kq, x121_35, rfl, HA, HJ35, ⟨mc35, rfl⟩⟩ := hcut
                        cases kq with
                        | zero => exact absurd HA.out (by simp [varveref05_Sees.j4])
                        | succ kj35 =>
                          have H := HA.out
                          clear HA
                          simp only [varveref05_Sees.j4] at H
                          by_cases c38 : x121_35 = true
                          · subst c38
                            have H1 : (some (2, 0)) = some (r1, r2) := by rw [if_pos rfl] at H; exact H
                            clear H
                            have H := H1
                            clear H1
                            simp only [Option.some.injEq, Prod.mk.injEq] at H
                            obtain ⟨rfl, rfl⟩ := H
                            go_wp2
                            go_ret2
                            exact ⟨by first | rfl | (simp; done) | (simp [*]; done), by repeat (first | exact Drawn0.refl _ | apply Drawn0.step)⟩
                          · replace c38 := Bool.eq_false_iff.mpr c38
                            subst c38
                            have H1 : ((varveref05_came.f kj35 a3 a5 a1).bind fun t151 => (if t151 = 1 then (some (2, 0)) else (if t151 = 2 then (some (1, 0)) else (some (3, 0))))) = some (r1, r2) := by rw [if_neg (show ¬ (false = true) by decide)] at H; exact H
                            clear H
                            have H := H1
                            clear H1
                            replace H := Option.bind_eq_some_iff.mp H
                            obtain ⟨t151, A390, H⟩ := H
                            replace H : (if t151 = 1 then (some (2, 0)) else (if t151 = 2 then (some (1, 0)) else (some (3, 0)))) = some (r1, r2) := H
                            have A39 := Aside0.mk A390
                            clear A390
                            by_cases c40 : t151 = 1
                            · rw [if_pos c40] at H
                              have c40b0 : (t151 == 1) = true := beq_iff_eq.mpr c40
                              have c40b1 : (t151 != 1) = false := bne_eq_false_iff_eq.mpr c40
                              clear c40
                              simp only [Option.some.injEq, Prod.mk.injEq] at H
                              obtain ⟨rfl, rfl⟩ := H
                              go_wp2_with (first | ((with_reducible refine gate_callee (f := 26) rfl ?_); refine goesL_ (some 125) rfl rfl Try.func26 (by kernel_rfl) rfl #[.int .u64 a3, .int .u64 a5, .int .i64 a1] rfl (by (try simp only [List.map_toArray, List.map_cons, List.map_nil]); first | done | rfl | (simp only [List.length_drop, List.length_take]; rfl)) ?_; (with_reducible refine (varveref05_came.calls kj35 a3 a5 a1 t151 _ A39.out).mono ?_); rintro e w' ⟨rfl, ⟨nd, rfl⟩⟩; refine ⟨_, rfl, ?_⟩))
                              go_ret2
                              exact ⟨by first | rfl | (simp; done) | (simp [*]; done), by repeat (first | exact Drawn0.refl _ | apply Drawn0.step)⟩
                            · rw [if_neg c40] at H
                              have c40b0 : (t151 == 1) = false := beq_eq_false_iff_ne.mpr c40
                              have c40b1 : (t151 != 1) = true := bne_iff_ne.mpr c40
                              by_cases c41 : t151 = 2
                              · rw [if_pos c41] at H
                                have c41b0 : (t151 == 2) = true := beq_iff_eq.mpr c41
                                have c41b1 : (t151 != 2) = false := bne_eq_false_iff_eq.mpr c41
                                clear c41
                                simp only [Option.some.injEq, Prod.mk.injEq] at H
                                obtain ⟨rfl, rfl⟩ := H
                                go_wp2_with (first | ((with_reducible refine gate_callee (f := 26) rfl ?_); refine goesL_ (some 125) rfl rfl Try.func26 (by kernel_rfl) rfl #[.int .u64 a3, .int .u64 a5, .int .i64 a1] rfl (by (try simp only [List.map_toArray, List.map_cons, List.map_nil]); first | done | rfl | (simp only [List.length_drop, List.length_take]; rfl)) ?_; (with_reducible refine (varveref05_came.calls kj35 a3 a5 a1 t151 _ A39.out).mono ?_); rintro e w' ⟨rfl, ⟨nd, rfl⟩⟩; refine ⟨_, rfl, ?_⟩))
                                go_ret2
                                exact ⟨by first | rfl | (simp; done) | (simp [*]; done), by repeat (first | exact Drawn0.refl _ | apply Drawn0.step)⟩
                              · rw [if_neg c41] at H
                                have c41b0 : (t151 == 2) = false := beq_eq_false_iff_ne.mpr c41
                                have c41b1 : (t151 != 2) = true := bne_iff_ne.mpr c41
                                simp only [Option.some.injEq, Prod.mk.injEq] at H
                                obtain ⟨rfl, rfl⟩ := H
                                go_wp2_with (first | ((with_reducible refine gate_callee (f := 26) rfl ?_); refine goesL_ (some 125) rfl rfl Try.func26 (by kernel_rfl) rfl #[.int .u64 a3, .int .u64 a5, .int .i64 a1] rfl (by (try simp only [List.map_toArray, List.map_cons, List.map_nil]); first | done | rfl | (simp only [List.length_drop, List.length_take]; rfl)) ?_; (with_reducible refine (varveref05_came.calls kj35 a3 a5 a1 t151 _ A39.out).mono ?_); rintro e w' ⟨rfl, ⟨nd, rfl⟩⟩; refine ⟨_, rfl, ?_⟩))
                                go_ret2
                                exact ⟨by first | rfl | (simp; done) | (simp [*]; done), by repeat (first | exact Drawn0.refl _ | apply Drawn0.step)⟩

end Go.Proofs.Ytdonoibopbhfoaa.PWordSees
