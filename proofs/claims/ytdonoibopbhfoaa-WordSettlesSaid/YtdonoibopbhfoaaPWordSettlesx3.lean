-- PRINTED BY print.sh 35421559b90ae4d0a3588c463048766b98c2df88dd9212a6774a882060cdf62d: not written by this session
import Derived.Test.YtdonoibopbhfoaaPWordSettlesx0
import Derived.Test.YtdonoibopbhfoaaPWordSettlesx1
import Derived.Test.YtdonoibopbhfoaaPWordSettlesx2
namespace Go.Proofs.Ytdonoibopbhfoaa.PWordSettles
open Go.RowKit Go.Proofs.YtdonoibopbhfoaaW.PrintWords Go.Proofs.YtdonoibopbhfoaaW.PrintLast Go.Proofs.YtdonoibopbhfoaaW.PrintMore
attribute [local go_sem] max2_int min2_int max_two min_two max_three min_three max_four min_four   -- for this text's walks alone
set_option linter.unusedVariables false
set_option linter.unusedSimpArgs false

/-! ### varvelaw05_WordSettles: function 6 -/
mutual
def varvelaw05_WordSettles.j0 : Nat → Int → Int → Int → Int → Bool → Bool → Int → Int → Int → Int → Int → Int → Bool → Option (Bool)
  | 0, _, _, _, _, _, _, _, _, _, _, _, _, _ => none
  | k + 1, x0, x1, x2, x4, x5, x13, x14, x15, x16, x17, x18, x20, x71 => if x71 = true then (if x13 = true then (if x15 = 0 then (if x17 = 0 then (some (x0 == x2)) else (some true)) else (some true)) else (some false)) else (if x5 = true then (varvelaw05_WordSettles.j1 k x0 x1 x2 x13 x16 x18 x20 x4 x14) else (varvelaw05_WordSettles.j1 k x0 x1 x2 x13 x16 x18 x20 x14 1099511627776))
def varvelaw05_WordSettles.j1 : Nat → Int → Int → Int → Bool → Int → Int → Int → Int → Int → Option (Bool)
  | 0, _, _, _, _, _, _, _, _, _ => none
  | k + 1, x0, x1, x2, x13, x16, x18, x20, x22, x23 => (word_Sees.f k x0 x1 x22 x23 x16 x16).bind fun bt141 => ((word_Sees.f k x0 x1 x22 x23 x18 x18).bind fun bt143 => ((word_Sees.f k x0 x1 x22 x23 x20 x20).bind fun bt145 => (if bt141.2 = 0 then (if bt143.2 = 0 then (varvelaw05_WordSettles.j2 k x0 x2 x13 x22 bt141.1 bt141.2 bt143.1 bt143.2 bt145.1 bt145.2 (bt145.2 != 0)) else (varvelaw05_WordSettles.j2 k x0 x2 x13 x22 bt141.1 bt141.2 bt143.1 bt143.2 bt145.1 bt145.2 true)) else (varvelaw05_WordSettles.j2 k x0 x2 x13 x22 bt141.1 bt141.2 bt143.1 bt143.2 bt145.1 bt145.2 true))))
def varvelaw05_WordSettles.j2 : Nat → Int → Int → Bool → Int → Int → Int → Int → Int → Int → Int → Bool → Option (Bool)
  | 0, _, _, _, _, _, _, _, _, _, _, _ => none
  | k + 1, x0, x2, x13, x22, x24, x25, x26, x27, x28, x29, x129 => if x129 = true then (if x13 = true then (if x25 = x27 then (some (x27 == x29)) else (some false)) else (some false)) else ((word_Parts.f x22).bind fun bt147 => (if bt147.2.1 = 0 then (if x13 = true then (if x26 = 3 then (some false) else (if x28 = 3 then (some false) else (if x24 = 3 then (some true) else (some (x24 == x26))))) else (some false)) else (if bt147.2.1 = x2 then (if x13 = true then (if x26 = 3 then (some false) else (if x28 = 3 then (some false) else (if x24 = 3 then (some true) else (some (x24 == x26))))) else (some false)) else (if bt147.2.1 = x0 then (if x13 = true then (if x26 = 3 then (some false) else (if x28 = 3 then (some false) else (if x24 = 3 then (some true) else (some (x24 == x26))))) else (some false)) else (some x13)))))
end
def varvelaw05_WordSettles.f (k : Nat) (a0 : Int) (a1 : Int) (a2 : Int) (a3 : Int) (a4 : Int) (a5 : Bool) : Option (Bool) := (varvelaw05_shown.f k).bind fun t132 => ((word_Owner.f a2).bind fun bt133 => ((word_State.f k 1 a3).bind fun bt135 => ((word_State.f k 2 a3).bind fun bt137 => ((word_State.f k 3 0).bind fun bt139 => (if bt133.2 = 0 then (if bt135.2 = 0 then (if bt137.2 = 0 then (if bt139.2 = 0 then (varvelaw05_WordSettles.j0 k a0 a1 a2 a4 a5 t132 bt133.1 bt133.2 bt135.1 bt135.2 bt137.1 bt139.1 (a0 == a2)) else (varvelaw05_WordSettles.j0 k a0 a1 a2 a4 a5 t132 bt133.1 bt133.2 bt135.1 bt135.2 bt137.1 bt139.1 true)) else (varvelaw05_WordSettles.j0 k a0 a1 a2 a4 a5 t132 bt133.1 bt133.2 bt135.1 bt135.2 bt137.1 bt139.1 true)) else (varvelaw05_WordSettles.j0 k a0 a1 a2 a4 a5 t132 bt133.1 bt133.2 bt135.1 bt135.2 bt137.1 bt139.1 true)) else (varvelaw05_WordSettles.j0 k a0 a1 a2 a4 a5 t132 bt133.1 bt133.2 bt135.1 bt135.2 bt137.1 bt139.1 true))))))
theorem varvelaw05_WordSettles.mono_l : ∀ k, (∀ y0 y1 y2 y3 y4 y5 y6 y7 y8 y9 y10 y11 y12, LeO (varvelaw05_WordSettles.j0 k y0 y1 y2 y3 y4 y5 y6 y7 y8 y9 y10 y11 y12) (varvelaw05_WordSettles.j0 (k + 1) y0 y1 y2 y3 y4 y5 y6 y7 y8 y9 y10 y11 y12)) ∧ (∀ y0 y1 y2 y3 y4 y5 y6 y7 y8, LeO (varvelaw05_WordSettles.j1 k y0 y1 y2 y3 y4 y5 y6 y7 y8) (varvelaw05_WordSettles.j1 (k + 1) y0 y1 y2 y3 y4 y5 y6 y7 y8)) ∧ (∀ y0 y1 y2 y3 y4 y5 y6 y7 y8 y9 y10, LeO (varvelaw05_WordSettles.j2 k y0 y1 y2 y3 y4 y5 y6 y7 y8 y9 y10) (varvelaw05_WordSettles.j2 (k + 1) y0 y1 y2 y3 y4 y5 y6 y7 y8 y9 y10))
  | 0 => ⟨fun _ _ _ _ _ _ _ _ _ _ _ _ _ r h => by simp [varvelaw05_WordSettles.j0] at h, fun _ _ _ _ _ _ _ _ _ r h => by simp [varvelaw05_WordSettles.j1] at h, fun _ _ _ _ _ _ _ _ _ _ _ r h => by simp [varvelaw05_WordSettles.j2] at h⟩
  | k + 1 => by
    obtain ⟨ih0, ih1, ih2⟩ := varvelaw05_WordSettles.mono_l k
    refine ⟨?_, ?_, ?_⟩
    · intro y0 y1 y2 y3 y4 y5 y6 y7 y8 y9 y10 y11 y12
      unfold varvelaw05_WordSettles.j0
      repeat' first
      | (with_reducible exact ih0 _ _ _ _ _ _ _ _ _ _ _ _ _)
      | (with_reducible exact ih1 _ _ _ _ _ _ _ _ _)
      | (with_reducible exact ih2 _ _ _ _ _ _ _ _ _ _ _)
      | (with_reducible exact varvelaw05_shown.mono _)
      | (with_reducible exact word_Sees.mono _ _ _ _ _ _ _)
      | (with_reducible exact word_State.mono _ _ _)
      | (with_reducible exact LeO.refl _)
      | (with_reducible exact LeO.none _)
      | (with_reducible refine LeO.ite ?_ ?_)
      | (with_reducible refine LeO.bind ?_ (fun _ => ?_))
      | exact ih0 _ _ _ _ _ _ _ _ _ _ _ _ _
      | exact ih1 _ _ _ _ _ _ _ _ _
      | exact ih2 _ _ _ _ _ _ _ _ _ _ _
      | exact varvelaw05_shown.mono _
      | exact word_Sees.mono _ _ _ _ _ _ _
      | exact word_State.mono _ _ _
      | exact LeO.none _
      | refine LeO.ite ?_ ?_
      | refine LeO.bind ?_ (fun _ => ?_)
    · intro y0 y1 y2 y3 y4 y5 y6 y7 y8
      unfold varvelaw05_WordSettles.j1
      repeat' first
      | (with_reducible exact ih0 _ _ _ _ _ _ _ _ _ _ _ _ _)
      | (with_reducible exact ih1 _ _ _ _ _ _ _ _ _)
      | (with_reducible exact ih2 _ _ _ _ _ _ _ _ _ _ _)
      | (with_reducible exact varvelaw05_shown.mono _)
      | (with_reducible exact word_Sees.mono _ _ _ _ _ _ _)
      | (with_reducible exact word_State.mono _ _ _)
      | (with_reducible exact LeO.refl _)
      | (with_reducible exact LeO.none _)
      | (with_reducible refine LeO.ite ?_ ?_)
      | (with_reducible refine LeO.bind ?_ (fun _ => ?_))
      | exact ih0 _ _ _ _ _ _ _ _ _ _ _ _ _
      | exact ih1 _ _ _ _ _ _ _ _ _
      | exact ih2 _ _ _ _ _ _ _ _ _ _ _
      | exact varvelaw05_shown.mono _
      | exact word_Sees.mono _ _ _ _ _ _ _
      | exact word_State.mono _ _ _
      | exact LeO.none _
      | refine LeO.ite ?_ ?_
      | refine LeO.bind ?_ (fun _ => ?_)
    · intro y0 y1 y2 y3 y4 y5 y6 y7 y8 y9 y10
      unfold varvelaw05_WordSettles.j2
      repeat' first
      | (with_reducible exact ih0 _ _ _ _ _ _ _ _ _ _ _ _ _)
      | (with_reducible exact ih1 _ _ _ _ _ _ _ _ _)
      | (with_reducible exact ih2 _ _ _ _ _ _ _ _ _ _ _)
      | (with_reducible exact varvelaw05_shown.mono _)
      | (with_reducible exact word_Sees.mono _ _ _ _ _ _ _)
      | (with_reducible exact word_State.mono _ _ _)
      | (with_reducible exact LeO.refl _)
      | (with_reducible exact LeO.none _)
      | (with_reducible refine LeO.ite ?_ ?_)
      | (with_reducible refine LeO.bind ?_ (fun _ => ?_))
      | exact ih0 _ _ _ _ _ _ _ _ _ _ _ _ _
      | exact ih1 _ _ _ _ _ _ _ _ _
      | exact ih2 _ _ _ _ _ _ _ _ _ _ _
      | exact varvelaw05_shown.mono _
      | exact word_Sees.mono _ _ _ _ _ _ _
      | exact word_State.mono _ _ _
      | exact LeO.none _
      | refine LeO.ite ?_ ?_
      | refine LeO.bind ?_ (fun _ => ?_)
theorem varvelaw05_WordSettles.mono : ∀ a0 a1 a2 a3 a4 a5 k, LeO (varvelaw05_WordSettles.f k a0 a1 a2 a3 a4 a5) (varvelaw05_WordSettles.f (k + 1) a0 a1 a2 a3 a4 a5) := by
  intro a0 a1 a2 a3 a4 a5 k
  obtain ⟨ih0, ih1, ih2⟩ := varvelaw05_WordSettles.mono_l k
  unfold varvelaw05_WordSettles.f
  repeat' first
      | (with_reducible exact ih0 _ _ _ _ _ _ _ _ _ _ _ _ _)
      | (with_reducible exact ih1 _ _ _ _ _ _ _ _ _)
      | (with_reducible exact ih2 _ _ _ _ _ _ _ _ _ _ _)
      | (with_reducible exact varvelaw05_shown.mono _)
      | (with_reducible exact word_Sees.mono _ _ _ _ _ _ _)
      | (with_reducible exact word_State.mono _ _ _)
      | (with_reducible exact LeO.refl _)
      | (with_reducible exact LeO.none _)
      | (with_reducible refine LeO.ite ?_ ?_)
      | (with_reducible refine LeO.bind ?_ (fun _ => ?_))
      | exact ih0 _ _ _ _ _ _ _ _ _ _ _ _ _
      | exact ih1 _ _ _ _ _ _ _ _ _
      | exact ih2 _ _ _ _ _ _ _ _ _ _ _
      | exact varvelaw05_shown.mono _
      | exact word_Sees.mono _ _ _ _ _ _ _
      | exact word_State.mono _ _ _
      | exact LeO.none _
      | refine LeO.ite ?_ ?_
      | refine LeO.bind ?_ (fun _ => ?_)
set_option maxHeartbeats 8000000 in
set_option maxRecDepth 100000 in
theorem varvelaw05_WordSettles.calls (k : Nat) (a0 : Int) (a1 : Int) (a2 : Int) (a3 : Int) (a4 : Int) (a5 : Bool) (r : Bool) (w : World) (h : varvelaw05_WordSettles.f k a0 a1 a2 a3 a4 a5 = some r) :
    Calls Try.prog 6 #[.int .i64 a0, .int .i64 a1, .int .i64 a2, .int .i64 a3, .int .u64 a4, .bool a5] w fun e w' => e = .returned (.bool r) ∧ Drawn0 w w' := by
  have H : ((varvelaw05_shown.f k).bind fun t132 => ((word_Owner.f a2).bind fun bt133 => ((word_State.f k 1 a3).bind fun bt135 => ((word_State.f k 2 a3).bind fun bt137 => ((word_State.f k 3 0).bind fun bt139 => (if bt133.2 = 0 then (if bt135.2 = 0 then (if bt137.2 = 0 then (if bt139.2 = 0 then (varvelaw05_WordSettles.j0 k a0 a1 a2 a4 a5 t132 bt133.1 bt133.2 bt135.1 bt135.2 bt137.1 bt139.1 (a0 == a2)) else (varvelaw05_WordSettles.j0 k a0 a1 a2 a4 a5 t132 bt133.1 bt133.2 bt135.1 bt135.2 bt137.1 bt139.1 true)) else (varvelaw05_WordSettles.j0 k a0 a1 a2 a4 a5 t132 bt133.1 bt133.2 bt135.1 bt135.2 bt137.1 bt139.1 true)) else (varvelaw05_WordSettles.j0 k a0 a1 a2 a4 a5 t132 bt133.1 bt133.2 bt135.1 bt135.2 bt137.1 bt139.1 true)) else (varvelaw05_WordSettles.j0 k a0 a1 a2 a4 a5 t132 bt133.1 bt133.2 bt135.1 bt135.2 bt137.1 bt139.1 true))))))) = some r := h
  clear h
  replace H := Option.bind_eq_some_iff.mp H
  obtain ⟨t132, A70, H⟩ := H
  replace H : ((word_Owner.f a2).bind fun bt133 => ((word_State.f k 1 a3).bind fun bt135 => ((word_State.f k 2 a3).bind fun bt137 => ((word_State.f k 3 0).bind fun bt139 => (if bt133.2 = 0 then (if bt135.2 = 0 then (if bt137.2 = 0 then (if bt139.2 = 0 then (varvelaw05_WordSettles.j0 k a0 a1 a2 a4 a5 t132 bt133.1 bt133.2 bt135.1 bt135.2 bt137.1 bt139.1 (a0 == a2)) else (varvelaw05_WordSettles.j0 k a0 a1 a2 a4 a5 t132 bt133.1 bt133.2 bt135.1 bt135.2 bt137.1 bt139.1 true)) else (varvelaw05_WordSettles.j0 k a0 a1 a2 a4 a5 t132 bt133.1 bt133.2 bt135.1 bt135.2 bt137.1 bt139.1 true)) else (varvelaw05_WordSettles.j0 k a0 a1 a2 a4 a5 t132 bt133.1 bt133.2 bt135.1 bt135.2 bt137.1 bt139.1 true)) else (varvelaw05_WordSettles.j0 k a0 a1 a2 a4 a5 t132 bt133.1 bt133.2 bt135.1 bt135.2 bt137.1 bt139.1 true)))))) = some r := H
  have A7 := Aside0.mk A70
  clear A70
  replace H := Option.bind_eq_some_iff.mp H
  obtain ⟨⟨t133, t134⟩, A80, H⟩ := H
  replace H : ((word_State.f k 1 a3).bind fun bt135 => ((word_State.f k 2 a3).bind fun bt137 => ((word_State.f k 3 0).bind fun bt139 => (if t134 = 0 then (if bt135.2 = 0 then (if bt137.2 = 0 then (if bt139.2 = 0 then (varvelaw05_WordSettles.j0 k a0 a1 a2 a4 a5 t132 t133 t134 bt135.1 bt135.2 bt137.1 bt139.1 (a0 == a2)) else (varvelaw05_WordSettles.j0 k a0 a1 a2 a4 a5 t132 t133 t134 bt135.1 bt135.2 bt137.1 bt139.1 true)) else (varvelaw05_WordSettles.j0 k a0 a1 a2 a4 a5 t132 t133 t134 bt135.1 bt135.2 bt137.1 bt139.1 true)) else (varvelaw05_WordSettles.j0 k a0 a1 a2 a4 a5 t132 t133 t134 bt135.1 bt135.2 bt137.1 bt139.1 true)) else (varvelaw05_WordSettles.j0 k a0 a1 a2 a4 a5 t132 t133 t134 bt135.1 bt135.2 bt137.1 bt139.1 true))))) = some r := H
  have A8 := Aside0.mk A80
  clear A80
  replace H := Option.bind_eq_some_iff.mp H
  obtain ⟨⟨t135, t136⟩, A90, H⟩ := H
  replace H : ((word_State.f k 2 a3).bind fun bt137 => ((word_State.f k 3 0).bind fun bt139 => (if t134 = 0 then (if t136 = 0 then (if bt137.2 = 0 then (if bt139.2 = 0 then (varvelaw05_WordSettles.j0 k a0 a1 a2 a4 a5 t132 t133 t134 t135 t136 bt137.1 bt139.1 (a0 == a2)) else (varvelaw05_WordSettles.j0 k a0 a1 a2 a4 a5 t132 t133 t134 t135 t136 bt137.1 bt139.1 true)) else (varvelaw05_WordSettles.j0 k a0 a1 a2 a4 a5 t132 t133 t134 t135 t136 bt137.1 bt139.1 true)) else (varvelaw05_WordSettles.j0 k a0 a1 a2 a4 a5 t132 t133 t134 t135 t136 bt137.1 bt139.1 true)) else (varvelaw05_WordSettles.j0 k a0 a1 a2 a4 a5 t132 t133 t134 t135 t136 bt137.1 bt139.1 true)))) = some r := H
  have A9 := Aside0.mk A90
  clear A90
  replace H := Option.bind_eq_some_iff.mp H
  obtain ⟨⟨t137, t138⟩, A100, H⟩ := H
  replace H : ((word_State.f k 3 0).bind fun bt139 => (if t134 = 0 then (if t136 = 0 then (if t138 = 0 then (if bt139.2 = 0 then (varvelaw05_WordSettles.j0 k a0 a1 a2 a4 a5 t132 t133 t134 t135 t136 t137 bt139.1 (a0 == a2)) else (varvelaw05_WordSettles.j0 k a0 a1 a2 a4 a5 t132 t133 t134 t135 t136 t137 bt139.1 true)) else (varvelaw05_WordSettles.j0 k a0 a1 a2 a4 a5 t132 t133 t134 t135 t136 t137 bt139.1 true)) else (varvelaw05_WordSettles.j0 k a0 a1 a2 a4 a5 t132 t133 t134 t135 t136 t137 bt139.1 true)) else (varvelaw05_WordSettles.j0 k a0 a1 a2 a4 a5 t132 t133 t134 t135 t136 t137 bt139.1 true))) = some r := H
  have A10 := Aside0.mk A100
  clear A100
  replace H := Option.bind_eq_some_iff.mp H
  obtain ⟨⟨t139, t140⟩, A110, H⟩ := H
  replace H : (if t134 = 0 then (if t136 = 0 then (if t138 = 0 then (if t140 = 0 then (varvelaw05_WordSettles.j0 k a0 a1 a2 a4 a5 t132 t133 t134 t135 t136 t137 t139 (a0 == a2)) else (varvelaw05_WordSettles.j0 k a0 a1 a2 a4 a5 t132 t133 t134 t135 t136 t137 t139 true)) else (varvelaw05_WordSettles.j0 k a0 a1 a2 a4 a5 t132 t133 t134 t135 t136 t137 t139 true)) else (varvelaw05_WordSettles.j0 k a0 a1 a2 a4 a5 t132 t133 t134 t135 t136 t137 t139 true)) else (varvelaw05_WordSettles.j0 k a0 a1 a2 a4 a5 t132 t133 t134 t135 t136 t137 t139 true)) = some r := H
  have A11 := Aside0.mk A110
  clear A110
  have HC12 := Aside0.mk H
  clear H
  go_enter Try.func6, Try.ntmps6
  go_upto_region 6 with (first | ((with_reducible refine gate_callee (f := 9) rfl ?_); refine goesL_ (some 33) rfl rfl Try.func9 (by kernel_rfl) rfl #[] rfl (by (try simp only [List.map_toArray, List.map_cons, List.map_nil]); first | done | rfl | (simp only [List.length_drop, List.length_take]; rfl)) ?_; (with_reducible refine (varvelaw05_shown.calls k  t132 _ A7.out).mono ?_); rintro e w' ⟨rfl, ⟨nd, rfl⟩⟩; refine ⟨_, rfl, ?_⟩) | ((with_reducible refine gate_callee (f := 13) rfl ?_); refine goesL_ (some 36) rfl rfl Try.func13 (by kernel_rfl) rfl #[.int .i64 a2] rfl (by (try simp only [List.map_toArray, List.map_cons, List.map_nil]); first | done | rfl | (simp only [List.length_drop, List.length_take]; rfl)) ?_; (with_reducible refine (word_Owner.calls a2 t133 t134 _ A8.out).mono ?_); rintro e w' ⟨rfl, ⟨nd, rfl⟩⟩; refine ⟨_, rfl, ?_⟩) | ((with_reducible refine gate_callee (f := 14) rfl ?_); refine goesL_ (some 41) rfl rfl Try.func14 (by kernel_rfl) rfl #[.int .i64 1, .int .i64 a3] rfl (by (try simp only [List.map_toArray, List.map_cons, List.map_nil]); first | done | rfl | (simp only [List.length_drop, List.length_take]; rfl)) ?_; (with_reducible refine (word_State.calls k 1 a3 t135 t136 _ A9.out).mono ?_); rintro e w' ⟨rfl, ⟨nd, rfl⟩⟩; refine ⟨_, rfl, ?_⟩) | ((with_reducible refine gate_callee (f := 14) rfl ?_); refine goesL_ (some 46) rfl rfl Try.func14 (by kernel_rfl) rfl #[.int .i64 2, .int .i64 a3] rfl (by (try simp only [List.map_toArray, List.map_cons, List.map_nil]); first | done | rfl | (simp only [List.length_drop, List.length_take]; rfl)) ?_; (with_reducible refine (word_State.calls k 2 a3 t137 t138 _ A10.out).mono ?_); rintro e w' ⟨rfl, ⟨nd, rfl⟩⟩; refine ⟨_, rfl, ?_⟩) | ((with_reducible refine gate_callee (f := 14) rfl ?_); refine goesL_ (some 50) rfl rfl Try.func14 (by kernel_rfl) rfl #[.int .i64 3, .int .i64 0] rfl (by (try simp only [List.map_toArray, List.map_cons, List.map_nil]); first | done | rfl | (simp only [List.length_drop, List.length_take]; rfl)) ?_; (with_reducible refine (word_State.calls k 3 0 t139 t140 _ A11.out).mono ?_); rintro e w' ⟨rfl, ⟨nd, rfl⟩⟩; refine ⟨_, rfl, ?_⟩))
  (try simp only [Act.put, List.setIfInBounds_toArray, List.set_cons_zero, List.set_cons_succ])
  go_cut [71] (fun v71 wc => ∃ (kq : Nat) (x71_11 : Bool), v71 = .bool x71_11 ∧ Aside0 (varvelaw05_WordSettles.j0 kq a0 a1 a2 a4 a5 t132 t133 t134 t135 t136 t137 t139 x71_11 = some r) ∧ Aside0 (kq ≤ k) ∧ Drawn0 w wc)
  case first =>
    have H := HC12.out
    clear HC12
    by_cases c13 : t134 = 0
    · rw [if_pos c13] at H
      have c13b0 : (t134 == 0) = true := beq_iff_eq.mpr c13
      have c13b1 : (t134 != 0) = false := bne_eq_false_iff_eq.mpr c13
      clear c13
      (first | rw [c13b0] | (simp only [i64_w, i32_w]; rw [c13b0]) | skip)
      by_cases c14 : t136 = 0
      · rw [if_pos c14] at H
        have c14b0 : (t136 == 0) = true := beq_iff_eq.mpr c14
        have c14b1 : (t136 != 0) = false := bne_eq_false_iff_eq.mpr c14
        clear c14
        by_cases c15 : t138 = 0
        · rw [if_pos c15] at H
          have c15b0 : (t138 == 0) = true := beq_iff_eq.mpr c15
          have c15b1 : (t138 != 0) = false := bne_eq_false_iff_eq.mpr c15
          clear c15
          by_cases c16 : t140 = 0
          · rw [if_pos c16] at H
            have c16b0 : (t140 == 0) = true := beq_iff_eq.mpr c16
            have c16b1 : (t140 != 0) = false := bne_eq_false_iff_eq.mpr c16
            clear c16
            have H' := Aside0.mk H
            clear H
            go_wp2
            go_meet
            case rel => exact ⟨_, ((a0 == a2)), (by first | rfl | (simp; done) | (simp [*]; done)), H', ⟨by first | omega | exact Nat.le_refl _⟩, by repeat (first | exact Drawn0.refl _ | apply Drawn0.step)⟩
          · rw [if_neg c16] at H
            have c16b0 : (t140 == 0) = false := beq_eq_false_iff_ne.mpr c16
            have c16b1 : (t140 != 0) = true := bne_iff_ne.mpr c16
            have H' := Aside0.mk H
            clear H
            go_wp2
            go_meet
            case rel => exact ⟨_, (true), (by first | rfl | (simp; done) | (simp [*]; done)), H', ⟨by first | omega | exact Nat.le_refl _⟩, by repeat (first | exact Drawn0.refl _ | apply Drawn0.step)⟩
        · rw [if_neg c15] at H
          have c15b0 : (t138 == 0) = false := beq_eq_false_iff_ne.mpr c15
          have c15b1 : (t138 != 0) = true := bne_iff_ne.mpr c15
          have H' := Aside0.mk H
          clear H
          go_wp2
          go_meet
          case rel => exact ⟨_, (true), (by first | rfl | (simp; done) | (simp [*]; done)), H', ⟨by first | omega | exact Nat.le_refl _⟩, by repeat (first | exact Drawn0.refl _ | apply Drawn0.step)⟩
      · rw [if_neg c14] at H
        have c14b0 : (t136 == 0) = false := beq_eq_false_iff_ne.mpr c14
        have c14b1 : (t136 != 0) = true := bne_iff_ne.mpr c14
        have H' := Aside0.mk H
        clear H
        go_wp2
        go_meet
        case rel => exact ⟨_, (true), (by first | rfl | (simp; done) | (simp [*]; done)), H', ⟨by first | omega | exact Nat.le_refl _⟩, by repeat (first | exact Drawn0.refl _ | apply Drawn0.step)⟩
    · rw [if_neg c13] at H
      have c13b0 : (t134 == 0) = false := beq_eq_false_iff_ne.mpr c13
      have c13b1 : (t134 != 0) = true := bne_iff_ne.mpr c13
      (first | rw [c13b0] | (simp only [i64_w, i32_w]; rw [c13b0]) | skip)
      have H' := Aside0.mk H
      clear H
      go_wp2
      go_meet
      case rel => exact ⟨_, (true), (by first | rfl | (simp; done) | (simp [*]; done)), H', ⟨by first | omega | exact Nat.le_refl _⟩, by repeat (first | exact Drawn0.refl _ | apply Drawn0.step)⟩
  case rest =>
    clear HC12
    try clear c1
    try clear p2
    try clear c6
    try clear c9
    try clear c13
    try clear c13b0
    try clear c13b1
    try clear c14
    try clear c14b0
    try clear c14b1
    try clear c15
    try clear c15b0
    try clear c15b1
    try clear c16
    try clear c16b0
    try clear c16b1
    obtain ⟨kq, x71_11, rfl, HA, HJ11, ⟨mc11, rfl⟩⟩ := hcut
    cases kq with
    | zero => exact absurd HA.out (by simp [varvelaw05_WordSettles.j0])
    | succ kj11 =>
      have H := HA.out
      clear HA
      simp only [varvelaw05_WordSettles.j0] at H
      by_cases c17 : x71_11 = true
      · subst c17
        have H1 : (if t132 = true then (if t134 = 0 then (if t136 = 0 then (some (a0 == a2)) else (some true)) else (some true)) else (some false)) = some r := by rw [if_pos rfl] at H; exact H
        clear H
        have H := H1
        clear H1
        by_cases c18 : t132 = true
        · subst c18
          have H1 : (if t134 = 0 then (if t136 = 0 then (some (a0 == a2)) else (some true)) else (some true)) = some r := by rw [if_pos rfl] at H; exact H
          clear H
          have H := H1
          clear H1
          by_cases c19 : t134 = 0
          · rw [if_pos c19] at H
            have c19b0 : (t134 == 0) = true := beq_iff_eq.mpr c19
            have c19b1 : (t134 != 0) = false := bne_eq_false_iff_eq.mpr c19
            clear c19
            by_cases c20 : t136 = 0
            · rw [if_pos c20] at H
              have c20b0 : (t136 == 0) = true := beq_iff_eq.mpr c20
              have c20b1 : (t136 != 0) = false := bne_eq_false_iff_eq.mpr c20
              clear c20
              obtain rfl := Option.some.inj H
              go_wp2
              go_ret
              exact ⟨by first | rfl | (simp; done) | (simp [*]; done), by repeat (first | exact Drawn0.refl _ | apply Drawn0.step)⟩
            · rw [if_neg c20] at H
              have c20b0 : (t136 == 0) = false := beq_eq_false_iff_ne.mpr c20
              have c20b1 : (t136 != 0) = true := bne_iff_ne.mpr c20
              obtain rfl := Option.some.inj H
              go_wp2
              go_ret
              exact ⟨by first | rfl | (simp; done) | (simp [*]; done), by repeat (first | exact Drawn0.refl _ | apply Drawn0.step)⟩
          · rw [if_neg c19] at H
            have c19b0 : (t134 == 0) = false := beq_eq_false_iff_ne.mpr c19
            have c19b1 : (t134 != 0) = true := bne_iff_ne.mpr c19
            obtain rfl := Option.some.inj H
            go_wp2
            go_ret
            exact ⟨by first | rfl | (simp; done) | (simp [*]; done), by repeat (first | exact Drawn0.refl _ | apply Drawn0.step)⟩
        · replace c18 := Bool.eq_false_iff.mpr c18
          subst c18
          have H1 : (some false) = some r := by rw [if_neg (show ¬ (false = true) by decide)] at H; exact H
          clear H
          have H := H1
          clear H1
          obtain rfl := Option.some.inj H
          go_wp2
          go_ret
          exact ⟨by first | rfl | (simp; done) | (simp [*]; done), by repeat (first | exact Drawn0.refl _ | apply Drawn0.step)⟩
      · replace c17 := Bool.eq_false_iff.mpr c17
        subst c17
        have H1 : (if a5 = true then (varvelaw05_WordSettles.j1 kj11 a0 a1 a2 t132 t135 t137 t139 a4 t133) else (varvelaw05_WordSettles.j1 kj11 a0 a1 a2 t132 t135 t137 t139 t133 1099511627776)) = some r := by rw [if_neg (show ¬ (false = true) by decide)] at H; exact H
        clear H
        have H := H1
        clear H1
        have HC21 := Aside0.mk H
        clear H
        go_upto_if 87 with (fail)
        go_cut [22, 23] (fun v22 v23 wc => ∃ (kq : Nat) (x22_20 : Int) (x23_20 : Int), v22 = .int .u64 x22_20 ∧ v23 = .int .u64 x23_20 ∧ Aside0 (varvelaw05_WordSettles.j1 kq a0 a1 a2 t132 t135 t137 t139 x22_20 x23_20 = some r) ∧ Aside0 (kq ≤ kj11) ∧ Drawn0 w wc)
        case first =>
          have H := HC21.out
          clear HC21
          by_cases c22 : a5 = true
          · subst c22
            have H1 : (varvelaw05_WordSettles.j1 kj11 a0 a1 a2 t132 t135 t137 t139 a4 t133) = some r := by rw [if_pos rfl] at H; exact H
            clear H
            have H := H1
            clear H1
            have H' := Aside0.mk H
            clear H
            go_wp2
            go_meet
            case rel => exact ⟨_, (a4), (t133), (by first | rfl | (simp; done) | (simp [*]; done)), (by first | rfl | (simp; done) | (simp [*]; done)), H', ⟨by have := HJ11.out; first | omega | exact Nat.le_refl _⟩, by repeat (first | exact Drawn0.refl _ | apply Drawn0.step)⟩
          · replace c22 := Bool.eq_false_iff.mpr c22
            subst c22
            have H1 : (varvelaw05_WordSettles.j1 kj11 a0 a1 a2 t132 t135 t137 t139 t133 1099511627776) = some r := by rw [if_neg (show ¬ (false = true) by decide)] at H; exact H
            clear H
            have H := H1
            clear H1
            have H' := Aside0.mk H
            clear H
            go_wp2
            go_meet
            case rel => exact ⟨_, (t133), (1099511627776), (by first | rfl | (simp; done) | (simp [*]; done)), (by first | rfl | (simp; done) | (simp [*]; done)), H', ⟨by have := HJ11.out; first | omega | exact Nat.le_refl _⟩, by repeat (first | exact Drawn0.refl _ | apply Drawn0.step)⟩
        case rest =>
          clear HC21
          try clear c1
          try clear c2
          try clear p2
          try clear c6
          try clear c9
          try clear c11
          try clear c13
          try clear c13b0
          try clear c13b1
          try clear c14
          try clear c14b0
          try clear c14b1
          try clear c15
          try clear c15b0
          try clear c15b1
          try clear c16
          try clear c16b0
          try clear c16b1
          try clear c17
          try clear c18
          try clear c19
          try clear c19b0
          try clear c19b1
          try clear c20
          try clear c20b0
          try clear c20b1
          try clear c22
          try clear p2
          obtain ⟨kq, x22_20, x23_20, rfl, rfl, HA, HJ20, ⟨mc20, rfl⟩⟩ := hcut
          cases kq with
          | zero => exact absurd HA.out (by simp [varvelaw05_WordSettles.j1])
          | succ kj20 =>
            have H := HA.out
            clear HA
            simp only [varvelaw05_WordSettles.j1] at H
            replace H := Option.bind_eq_some_iff.mp H
            obtain ⟨⟨t141, t142⟩, A230, H⟩ := H
            replace H : ((word_Sees.f kj20 a0 a1 x22_20 x23_20 t137 t137).bind fun bt143 => ((word_Sees.f kj20 a0 a1 x22_20 x23_20 t139 t139).bind fun bt145 => (if t142 = 0 then (if bt143.2 = 0 then (varvelaw05_WordSettles.j2 kj20 a0 a2 t132 x22_20 t141 t142 bt143.1 bt143.2 bt145.1 bt145.2 (bt145.2 != 0)) else (varvelaw05_WordSettles.j2 kj20 a0 a2 t132 x22_20 t141 t142 bt143.1 bt143.2 bt145.1 bt145.2 true)) else (varvelaw05_WordSettles.j2 kj20 a0 a2 t132 x22_20 t141 t142 bt143.1 bt143.2 bt145.1 bt145.2 true)))) = some r := H
            have A23 := Aside0.mk A230
            clear A230
            replace H := Option.bind_eq_some_iff.mp H
            obtain ⟨⟨t143, t144⟩, A240, H⟩ := H
            replace H : ((word_Sees.f kj20 a0 a1 x22_20 x23_20 t139 t139).bind fun bt145 => (if t142 = 0 then (if t144 = 0 then (varvelaw05_WordSettles.j2 kj20 a0 a2 t132 x22_20 t141 t142 t143 t144 bt145.1 bt145.2 (bt145.2 != 0)) else (varvelaw05_WordSettles.j2 kj20 a0 a2 t132 x22_20 t141 t142 t143 t144 bt145.1 bt145.2 true)) else (varvelaw05_WordSettles.j2 kj20 a0 a2 t132 x22_20 t141 t142 t143 t144 bt145.1 bt145.2 true))) = some r := H
            have A24 := Aside0.mk A240
            clear A240
            replace H := Option.bind_eq_some_iff.mp H
            obtain ⟨⟨t145, t146⟩, A250, H⟩ := H
            replace H : (if t142 = 0 then (if t144 = 0 then (varvelaw05_WordSettles.j2 kj20 a0 a2 t132 x22_20 t141 t142 t143 t144 t145 t146 (t146 != 0)) else (varvelaw05_WordSettles.j2 kj20 a0 a2 t132 x22_20 t141 t142 t143 t144 t145 t146 true)) else (varvelaw05_WordSettles.j2 kj20 a0 a2 t132 x22_20 t141 t142 t143 t144 t145 t146 true)) = some r := H
            have A25 := Aside0.mk A250
            clear A250
            have HC26 := Aside0.mk H
            clear H
            go_upto_region 16 with (first | ((with_reducible refine gate_callee (f := 10) rfl ?_); refine goesL_ (some 97) rfl rfl Try.func10 (by kernel_rfl) rfl #[.int .i64 a0, .int .i64 a1, .int .u64 x22_20, .int .u64 x23_20, .int .u64 t135, .int .u64 t135] rfl (by (try simp only [List.map_toArray, List.map_cons, List.map_nil]); first | done | rfl | (simp only [List.length_drop, List.length_take]; rfl)) ?_; (with_reducible refine (word_Sees.calls kj20 a0 a1 x22_20 x23_20 t135 t135 t141 t142 _ A23.out).mono ?_); rintro e w' ⟨rfl, ⟨nd, rfl⟩⟩; refine ⟨_, rfl, ?_⟩) | ((with_reducible refine gate_callee (f := 10) rfl ?_); refine goesL_ (some 107) rfl rfl Try.func10 (by kernel_rfl) rfl #[.int .i64 a0, .int .i64 a1, .int .u64 x22_20, .int .u64 x23_20, .int .u64 t137, .int .u64 t137] rfl (by (try simp only [List.map_toArray, List.map_cons, List.map_nil]); first | done | rfl | (simp only [List.length_drop, List.length_take]; rfl)) ?_; (with_reducible refine (word_Sees.calls kj20 a0 a1 x22_20 x23_20 t137 t137 t143 t144 _ A24.out).mono ?_); rintro e w' ⟨rfl, ⟨nd, rfl⟩⟩; refine ⟨_, rfl, ?_⟩) | ((with_reducible refine gate_callee (f := 10) rfl ?_); refine goesL_ (some 117) rfl rfl Try.func10 (by kernel_rfl) rfl #[.int .i64 a0, .int .i64 a1, .int .u64 x22_20, .int .u64 x23_20, .int .u64 t139, .int .u64 t139] rfl (by (try simp only [List.map_toArray, List.map_cons, List.map_nil]); first | done | rfl | (simp only [List.length_drop, List.length_take]; rfl)) ?_; (with_reducible refine (word_Sees.calls kj20 a0 a1 x22_20 x23_20 t139 t139 t145 t146 _ A25.out).mono ?_); rintro e w' ⟨rfl, ⟨nd, rfl⟩⟩; refine ⟨_, rfl, ?_⟩))
            (try simp only [Act.put, List.setIfInBounds_toArray, List.set_cons_zero, List.set_cons_succ])
            go_cut [129] (fun v129 wc => ∃ (kq : Nat) (x129_25 : Bool), v129 = .bool x129_25 ∧ Aside0 (varvelaw05_WordSettles.j2 kq a0 a2 t132 x22_20 t141 t142 t143 t144 t145 t146 x129_25 = some r) ∧ Aside0 (kq ≤ kj20) ∧ Drawn0 w wc)
            case first =>
              have H := HC26.out
              clear HC26
              by_cases c27 : t142 = 0
              · rw [if_pos c27] at H
                have c27b0 : (t142 == 0) = true := beq_iff_eq.mpr c27
                have c27b1 : (t142 != 0) = false := bne_eq_false_iff_eq.mpr c27
                clear c27
                (first | rw [c27b0] | (simp only [i64_w, i32_w]; rw [c27b0]) | skip)
                by_cases c28 : t144 = 0
                · rw [if_pos c28] at H
                  have c28b0 : (t144 == 0) = true := beq_iff_eq.mpr c28
                  have c28b1 : (t144 != 0) = false := bne_eq_false_iff_eq.mpr c28
                  clear c28
                  have H' := Aside0.mk H
                  clear H
                  go_wp2
                  go_meet
                  case rel => exact ⟨_, ((t146 != 0)), (by first | rfl | (simp; done) | (simp [*]; done)), H', ⟨by have := HJ11.out; have := HJ20.out; first | omega | exact Nat.le_refl _⟩, by repeat (first | exact Drawn0.refl _ | apply Drawn0.step)⟩
                · rw [if_neg c28] at H
                  have c28b0 : (t144 == 0) = false := beq_eq_false_iff_ne.mpr c28
                  have c28b1 : (t144 != 0) = true := bne_iff_ne.mpr c28
                  have H' := Aside0.mk H
                  clear H
                  go_wp2
                  go_meet
                  case rel => exact ⟨_, (true), (by first | rfl | (simp; done) | (simp [*]; done)), H', ⟨by have := HJ11.out; have := HJ20.out; first | omega | exact Nat.le_refl _⟩, by repeat (first | exact Drawn0.refl _ | apply Drawn0.step)⟩
              · rw [if_neg c27] at H
                have c27b0 : (t142 == 0) = false := beq_eq_false_iff_ne.mpr c27
                have c27b1 : (t142 != 0) = true := bne_iff_ne.mpr c27
                (first | rw [c27b0] | (simp only [i64_w, i32_w]; rw [c27b0]) | skip)
                have H' := Aside0.mk H
                clear H
                go_wp2
                go_meet
                case rel => exact ⟨_, (true), (by first | rfl | (simp; done) | (simp [*]; done)), H', ⟨by have := HJ11.out; have := HJ20.out; first | omega | exact Nat.le_refl _⟩, by repeat (first | exact Drawn0.refl _ | apply Drawn0.step)⟩
            case rest =>
              clear HC26
              try clear c1
              try clear c2
              try clear p2
              try clear c6
              try clear c9
              try clear c10
              try clear c11
              try clear c13
              try clear c13b0
              try clear c13b1
              try clear c14
              try clear c14b0
              try clear c14b1
              try clear c15
              try clear c15b0
              try clear c15b1
              try clear c16
              try clear c16b0
              try clear c16b1
              try clear c17
              try clear c18
              try clear c19
              try clear c19b0
              try clear c19b1
              try clear c20
              try clear c20b0
              try clear c20b1
              try clear c22
              try clear c27
              try clear c27b0
              try clear c27b1
              try clear c28
              try clear c28b0
              try clear c28b1
              try clear p2
              obtain ⟨kq, x129_25, rfl, HA, HJ25, ⟨mc25, rfl⟩⟩ := hcut
              cases kq with
              | zero => exact absurd HA.out (by simp [varvelaw05_WordSettles.j2])
              | succ kj25 =>
                have H := HA.out
                clear HA
                simp only [varvelaw05_WordSettles.j2] at H
                by_cases c29 : x129_25 = true
                · subst c29
                  have H1 : (if t132 = true then (if t142 = t144 then (some (t144 == t146)) else (some false)) else (some false)) = some r := by rw [if_pos rfl] at H; exact H
                  clear H
                  have H := H1
                  clear H1
                  by_cases c30 : t132 = true
                  · subst c30
                    have H1 : (if t142 = t144 then (some (t144 == t146)) else (some false)) = some r := by rw [if_pos rfl] at H; exact H
                    clear H
                    have H := H1
                    clear H1
                    by_cases c31 : t142 = t144
                    · rw [if_pos c31] at H
                      have c31b0 : (t142 == t144) = true := beq_iff_eq.mpr c31
                      have c31b1 : (t142 != t144) = false := bne_eq_false_iff_eq.mpr c31
                      clear c31
                      obtain rfl := Option.some.inj H
                      go_wp2
                      go_ret
                      exact ⟨by first | rfl | (simp; done) | (simp [*]; done), by repeat (first | exact Drawn0.refl _ | apply Drawn0.step)⟩
                    · rw [if_neg c31] at H
                      have c31b0 : (t142 == t144) = false := beq_eq_false_iff_ne.mpr c31
                      have c31b1 : (t142 != t144) = true := bne_iff_ne.mpr c31
                      obtain rfl := Option.some.inj H
                      go_wp2
                      go_ret
                      exact ⟨by first | rfl | (simp; done) | (simp [*]; done), by repeat (first | exact Drawn0.refl _ | apply Drawn0.step)⟩
                  · replace c30 := Bool.eq_false_iff.mpr c30
                    subst c30
                    have H1 : (some false) = some r := by rw [if_neg (show ¬ (false = true) by decide)] at H; exact H
                    clear H
                    have H := H1
                    clear H1
                    obtain rfl := Option.some.inj H
                    go_wp2
                    go_ret
                    exact ⟨by first | rfl | (simp; done) | (simp [*]; done), by repeat (first | exact Drawn0.refl _ | apply Drawn0.step)⟩
                · replace c29 := Bool.eq_false_iff.mpr c29
                  subst c29
                  have H1 : ((word_Parts.f x22_20).bind fun bt147 => (if bt147.2.1 = 0 then (if t132 = true then (if t143 = 3 then (some false) else (if t145 = 3 then (some false) else (if t141 = 3 then (some true) else (some (t141 == t143))))) else (some false)) else (if bt147.2.1 = a2 then (if t132 = true then (if t143 = 3 then (some false) else (if t145 = 3 then (some false) else (if t141 = 3 then (some true) else (some (t141 == t143))))) else (some false)) else (if bt147.2.1 = a0 then (if t132 = true then (if t143 = 3 then (some false) else (if t145 = 3 then (some false) else (if t141 = 3 then (some true) else (some (t141 == t143))))) else (some false)) else (some t132))))) = some r := by rw [if_neg (show ¬ (false = true) by decide)] at H; exact H
                  clear H
                  have H := H1
                  clear H1
                  replace H := Option.bind_eq_some_iff.mp H
                  obtain ⟨⟨t147, t148, t149⟩, A320, H⟩ := H
                  replace H : (if t148 = 0 then (if t132 = true then (if t143 = 3 then (some false) else (if t145 = 3 then (some false) else (if t141 = 3 then (some true) else (some (t141 == t143))))) else (some false)) else (if t148 = a2 then (if t132 = true then (if t143 = 3 then (some false) else (if t145 = 3 then (some false) else (if t141 = 3 then (some true) else (some (t141 == t143))))) else (some false)) else (if t148 = a0 then (if t132 = true then (if t143 = 3 then (some false) else (if t145 = 3 then (some false) else (if t141 = 3 then (some true) else (some (t141 == t143))))) else (some false)) else (some t132)))) = some r := H
                  have A32 := Aside0.mk A320
                  clear A320
                  by_cases c33 : t148 = 0
                  · rw [if_pos c33] at H
                    have c33b0 : (t148 == 0) = true := beq_iff_eq.mpr c33
                    have c33b1 : (t148 != 0) = false := bne_eq_false_iff_eq.mpr c33
                    clear c33
                    by_cases c34 : t132 = true
                    · subst c34
                      have H1 : (if t143 = 3 then (some false) else (if t145 = 3 then (some false) else (if t141 = 3 then (some true) else (some (t141 == t143))))) = some r := by rw [if_pos rfl] at H; exact H
                      clear H
                      have H := H1
                      clear H1
                      by_cases c35 : t143 = 3
                      · rw [if_pos c35] at H
                        have c35b0 : (t143 == 3) = true := beq_iff_eq.mpr c35
                        have c35b1 : (t143 != 3) = false := bne_eq_false_iff_eq.mpr c35
                        clear c35
                        obtain rfl := Option.some.inj H
                        go_wp2_with (first | ((with_reducible refine gate_callee (f := 15) rfl ?_); refine goesL_ (some 143) rfl rfl Try.func15 (by kernel_rfl) rfl #[.int .u64 x22_20] rfl (by (try simp only [List.map_toArray, List.map_cons, List.map_nil]); first | done | rfl | (simp only [List.length_drop, List.length_take]; rfl)) ?_; (with_reducible refine (word_Parts.calls x22_20 t147 t148 t149 _ A32.out).mono ?_); rintro e w' ⟨rfl, ⟨nd, rfl⟩⟩; refine ⟨_, rfl, ?_⟩))
                        go_ret
                        exact ⟨by first | rfl | (simp; done) | (simp [*]; done), by repeat (first | exact Drawn0.refl _ | apply Drawn0.step)⟩
                      · rw [if_neg c35] at H
                        have c35b0 : (t143 == 3) = false := beq_eq_false_iff_ne.mpr c35
                        have c35b1 : (t143 != 3) = true := bne_iff_ne.mpr c35
                        by_cases c36 : t145 = 3
                        · rw [if_pos c36] at H
                          have c36b0 : (t145 == 3) = true := beq_iff_eq.mpr c36
                          have c36b1 : (t145 != 3) = false := bne_eq_false_iff_eq.mpr c36
                          clear c36
                          obtain rfl := Option.some.inj H
                          go_wp2_with (first | ((with_reducible refine gate_callee (f := 15) rfl ?_); refine goesL_ (some 143) rfl rfl Try.func15 (by kernel_rfl) rfl #[.int .u64 x22_20] rfl (by (try simp only [List.map_toArray, List.map_cons, List.map_nil]); first | done | rfl | (simp only [List.length_drop, List.length_take]; rfl)) ?_; (with_reducible refine (word_Parts.calls x22_20 t147 t148 t149 _ A32.out).mono ?_); rintro e w' ⟨rfl, ⟨nd, rfl⟩⟩; refine ⟨_, rfl, ?_⟩))
                          go_ret
                          exact ⟨by first | rfl | (simp; done) | (simp [*]; done), by repeat (first | exact Drawn0.refl _ | apply Drawn0.step)⟩
                        · rw [if_neg c36] at H
                          have c36b0 : (t145 == 3) = false := beq_eq_false_iff_ne.mpr c36
                          have c36b1 : (t145 != 3) = true := bne_iff_ne.mpr c36
                          by_cases c37 : t141 = 3
                          · rw [if_pos c37] at H
                            have c37b0 : (t141 == 3) = true := beq_iff_eq.mpr c37
                            have c37b1 : (t141 != 3) = false := bne_eq_false_iff_eq.mpr c37
                            clear c37
                            obtain rfl := Option.some.inj H
                            go_wp2_with (first | ((with_reducible refine gate_callee (f := 15) rfl ?_); refine goesL_ (some 143) rfl rfl Try.func15 (by kernel_rfl) rfl #[.int .u64 x22_20] rfl (by (try simp only [List.map_toArray, List.map_cons, List.map_nil]); first | done | rfl | (simp only [List.length_drop, List.length_take]; rfl)) ?_; (with_reducible refine (word_Parts.calls x22_20 t147 t148 t149 _ A32.out).mono ?_); rintro e w' ⟨rfl, ⟨nd, rfl⟩⟩; refine ⟨_, rfl, ?_⟩))
                            go_ret
                            exact ⟨by first | rfl | (simp; done) | (simp [*]; done), by repeat (first | exact Drawn0.refl _ | apply Drawn0.step)⟩
                          · rw [if_neg c37] at H
                            have c37b0 : (t141 == 3) = false := beq_eq_false_iff_ne.mpr c37
                            have c37b1 : (t141 != 3) = true := bne_iff_ne.mpr c37
                            obtain rfl := Option.some.inj H
                            go_wp2_with (first | ((with_reducible refine gate_callee (f := 15) rfl ?_); refine goesL_ (some 143) rfl rfl Try.func15 (by kernel_rfl) rfl #[.int .u64 x22_20] rfl (by (try simp only [List.map_toArray, List.map_cons, List.map_nil]); first | done | rfl | (simp only [List.length_drop, List.length_take]; rfl)) ?_; (with_reducible refine (word_Parts.calls x22_20 t147 t148 t149 _ A32.out).mono ?_); rintro e w' ⟨rfl, ⟨nd, rfl⟩⟩; refine ⟨_, rfl, ?_⟩))
                            go_ret
                            exact ⟨by first | rfl | (simp; done) | (simp [*]; done), by repeat (first | exact Drawn0.refl _ | apply Drawn0.step)⟩
                    · replace c34 := Bool.eq_false_iff.mpr c34
                      subst c34
                      have H1 : (some false) = some r := by rw [if_neg (show ¬ (false = true) by decide)] at H; exact H
                      clear H
                      have H := H1
                      clear H1
                      obtain rfl := Option.some.inj H
                      go_wp2_with (first | ((with_reducible refine gate_callee (f := 15) rfl ?_); refine goesL_ (some 143) rfl rfl Try.func15 (by kernel_rfl) rfl #[.int .u64 x22_20] rfl (by (try simp only [List.map_toArray, List.map_cons, List.map_nil]); first | done | rfl | (simp only [List.length_drop, List.length_take]; rfl)) ?_; (with_reducible refine (word_Parts.calls x22_20 t147 t148 t149 _ A32.out).mono ?_); rintro e w' ⟨rfl, ⟨nd, rfl⟩⟩; refine ⟨_, rfl, ?_⟩))
                      go_ret
                      exact ⟨by first | rfl | (simp; done) | (simp [*]; done), by repeat (first | exact Drawn0.refl _ | apply Drawn0.step)⟩
                  · rw [if_neg c33] at H
                    have c33b0 : (t148 == 0) = false := beq_eq_false_iff_ne.mpr c33
                    have c33b1 : (t148 != 0) = true := bne_iff_ne.mpr c33
                    by_cases c38 : t148 = a2
                    · rw [if_pos c38] at H
                      have c38b0 : (t148 == a2) = true := beq_iff_eq.mpr c38
                      have c38b1 : (t148 != a2) = false := bne_eq_false_iff_eq.mpr c38
                      clear c38
                      by_cases c39 : t132 = true
                      · subst c39
                        have H1 : (if t143 = 3 then (some false) else (if t145 = 3 then (some false) else (if t141 = 3 then (some true) else (some (t141 == t143))))) = some r := by rw [if_pos rfl] at H; exact H
                        clear H
                        have H := H1
                        clear H1
                        by_cases c40 : t143 = 3
                        · rw [if_pos c40] at H
                          have c40b0 : (t143 == 3) = true := beq_iff_eq.mpr c40
                          have c40b1 : (t143 != 3) = false := bne_eq_false_iff_eq.mpr c40
                          clear c40
                          obtain rfl := Option.some.inj H
                          go_wp2_with (first | ((with_reducible refine gate_callee (f := 15) rfl ?_); refine goesL_ (some 143) rfl rfl Try.func15 (by kernel_rfl) rfl #[.int .u64 x22_20] rfl (by (try simp only [List.map_toArray, List.map_cons, List.map_nil]); first | done | rfl | (simp only [List.length_drop, List.length_take]; rfl)) ?_; (with_reducible refine (word_Parts.calls x22_20 t147 t148 t149 _ A32.out).mono ?_); rintro e w' ⟨rfl, ⟨nd, rfl⟩⟩; refine ⟨_, rfl, ?_⟩))
                          go_ret
                          exact ⟨by first | rfl | (simp; done) | (simp [*]; done), by repeat (first | exact Drawn0.refl _ | apply Drawn0.step)⟩
                        · rw [if_neg c40] at H
                          have c40b0 : (t143 == 3) = false := beq_eq_false_iff_ne.mpr c40
                          have c40b1 : (t143 != 3) = true := bne_iff_ne.mpr c40
                          by_cases c41 : t145 = 3
                          · rw [if_pos c41] at H
                            have c41b0 : (t145 == 3) = true := beq_iff_eq.mpr c41
                            have c41b1 : (t145 != 3) = false := bne_eq_false_iff_eq.mpr c41
                            clear c41
                            obtain rfl := Option.some.inj H
                            go_wp2_with (first | ((with_reducible refine gate_callee (f := 15) rfl ?_); refine goesL_ (some 143) rfl rfl Try.func15 (by kernel_rfl) rfl #[.int .u64 x22_20] rfl (by (try simp only [List.map_toArray, List.map_cons, List.map_nil]); first | done | rfl | (simp only [List.length_drop, List.length_take]; rfl)) ?_; (with_reducible refine (word_Parts.calls x22_20 t147 t148 t149 _ A32.out).mono ?_); rintro e w' ⟨rfl, ⟨nd, rfl⟩⟩; refine ⟨_, rfl, ?_⟩))
                            go_ret
                            exact ⟨by first | rfl | (simp; done) | (simp [*]; done), by repeat (first | exact Drawn0.refl _ | apply Drawn0.step)⟩
                          · rw [if_neg c41] at H
                            have c41b0 : (t145 == 3) = false := beq_eq_false_iff_ne.mpr c41
                            have c41b1 : (t145 != 3) = true := bne_iff_ne.mpr c41
                            by_cases c42 : t141 = 3
                            · rw [if_pos c42] at H
                              have c42b0 : (t141 == 3) = true := beq_iff_eq.mpr c42
                              have c42b1 : (t141 != 3) = false := bne_eq_false_iff_eq.mpr c42
                              clear c42
                              obtain rfl := Option.some.inj H
                              go_wp2_with (first | ((with_reducible refine gate_callee (f := 15) rfl ?_); refine goesL_ (some 143) rfl rfl Try.func15 (by kernel_rfl) rfl #[.int .u64 x22_20] rfl (by (try simp only [List.map_toArray, List.map_cons, List.map_nil]); first | done | rfl | (simp only [List.length_drop, List.length_take]; rfl)) ?_; (with_reducible refine (word_Parts.calls x22_20 t147 t148 t149 _ A32.out).mono ?_); rintro e w' ⟨rfl, ⟨nd, rfl⟩⟩; refine ⟨_, rfl, ?_⟩))
                              go_ret
                              exact ⟨by first | rfl | (simp; done) | (simp [*]; done), by repeat (first | exact Drawn0.refl _ | apply Drawn0.step)⟩
                            · rw [if_neg c42] at H
                              have c42b0 : (t141 == 3) = false := beq_eq_false_iff_ne.mpr c42
                              have c42b1 : (t141 != 3) = true := bne_iff_ne.mpr c42
                              obtain rfl := Option.some.inj H
                              go_wp2_with (first | ((with_reducible refine gate_callee (f := 15) rfl ?_); refine goesL_ (some 143) rfl rfl Try.func15 (by kernel_rfl) rfl #[.int .u64 x22_20] rfl (by (try simp only [List.map_toArray, List.map_cons, List.map_nil]); first | done | rfl | (simp only [List.length_drop, List.length_take]; rfl)) ?_; (with_reducible refine (word_Parts.calls x22_20 t147 t148 t149 _ A32.out).mono ?_); rintro e w' ⟨rfl, ⟨nd, rfl⟩⟩; refine ⟨_, rfl, ?_⟩))
                              go_ret
                              exact ⟨by first | rfl | (simp; done) | (simp [*]; done), by repeat (first | exact Drawn0.refl _ | apply Drawn0.step)⟩
                      · replace c39 := Bool.eq_false_iff.mpr c39
                        subst c39
                        have H1 : (some false) = some r := by rw [if_neg (show ¬ (false = true) by decide)] at H; exact H
                        clear H
                        have H := H1
                        clear H1
                        obtain rfl := Option.some.inj H
                        go_wp2_with (first | ((with_reducible refine gate_callee (f := 15) rfl ?_); refine goesL_ (some 143) rfl rfl Try.func15 (by kernel_rfl) rfl #[.int .u64 x22_20] rfl (by (try simp only [List.map_toArray, List.map_cons, List.map_nil]); first | done | rfl | (simp only [List.length_drop, List.length_take]; rfl)) ?_; (with_reducible refine (word_Parts.calls x22_20 t147 t148 t149 _ A32.out).mono ?_); rintro e w' ⟨rfl, ⟨nd, rfl⟩⟩; refine ⟨_, rfl, ?_⟩))
                        go_ret
                        exact ⟨by first | rfl | (simp; done) | (simp [*]; done), by repeat (first | exact Drawn0.refl _ | apply Drawn0.step)⟩
                    · rw [if_neg c38] at H
                      have c38b0 : (t148 == a2) = false := beq_eq_false_iff_ne.mpr c38
                      have c38b1 : (t148 != a2) = true := bne_iff_ne.mpr c38
                      by_cases c43 : t148 = a0
                      · rw [if_pos c43] at H
                        have c43b0 : (t148 == a0) = true := beq_iff_eq.mpr c43
                        have c43b1 : (t148 != a0) = false := bne_eq_false_iff_eq.mpr c43
                        clear c43
                        by_cases c44 : t132 = true
                        · subst c44
                          have H1 : (if t143 = 3 then (some false) else (if t145 = 3 then (some false) else (if t141 = 3 then (some true) else (some (t141 == t143))))) = some r := by rw [if_pos rfl] at H; exact H
                          clear H
                          have H := H1
                          clear H1
                          by_cases c45 : t143 = 3
                          · rw [if_pos c45] at H
                            have c45b0 : (t143 == 3) = true := beq_iff_eq.mpr c45
                            have c45b1 : (t143 != 3) = false := bne_eq_false_iff_eq.mpr c45
                            clear c45
                            obtain rfl := Option.some.inj H
                            go_wp2_with (first | ((with_reducible refine gate_callee (f := 15) rfl ?_); refine goesL_ (some 143) rfl rfl Try.func15 (by kernel_rfl) rfl #[.int .u64 x22_20] rfl (by (try simp only [List.map_toArray, List.map_cons, List.map_nil]); first | done | rfl | (simp only [List.length_drop, List.length_take]; rfl)) ?_; (with_reducible refine (word_Parts.calls x22_20 t147 t148 t149 _ A32.out).mono ?_); rintro e w' ⟨rfl, ⟨nd, rfl⟩⟩; refine ⟨_, rfl, ?_⟩))
                            go_ret
                            exact ⟨by first | rfl | (simp; done) | (simp [*]; done), by repeat (first | exact Drawn0.refl _ | apply Drawn0.step)⟩
                          · rw [if_neg c45] at H
                            have c45b0 : (t143 == 3) = false := beq_eq_false_iff_ne.mpr c45
                            have c45b1 : (t143 != 3) = true := bne_iff_ne.mpr c45
                            by_cases c46 : t145 = 3
                            · rw [if_pos c46] at H
                              have c46b0 : (t145 == 3) = true := beq_iff_eq.mpr c46
                              have c46b1 : (t145 != 3) = false := bne_eq_false_iff_eq.mpr c46
                              clear c46
                              obtain rfl := Option.some.inj H
                              go_wp2_with (first | ((with_reducible refine gate_callee (f := 15) rfl ?_); refine goesL_ (some 143) rfl rfl Try.func15 (by kernel_rfl) rfl #[.int .u64 x22_20] rfl (by (try simp only [List.map_toArray, List.map_cons, List.map_nil]); first | done | rfl | (simp only [List.length_drop, List.length_take]; rfl)) ?_; (with_reducible refine (word_Parts.calls x22_20 t147 t148 t149 _ A32.out).mono ?_); rintro e w' ⟨rfl, ⟨nd, rfl⟩⟩; refine ⟨_, rfl, ?_⟩))
                              go_ret
                              exact ⟨by first | rfl | (simp; done) | (simp [*]; done), by repeat (first | exact Drawn0.refl _ | apply Drawn0.step)⟩
                            · rw [if_neg c46] at H
                              have c46b0 : (t145 == 3) = false := beq_eq_false_iff_ne.mpr c46
                              have c46b1 : (t145 != 3) = true := bne_iff_ne.mpr c46
                              by_cases c47 : t141 = 3
                              · rw [if_pos c47] at H
                                have c47b0 : (t141 == 3) = true := beq_iff_eq.mpr c47
                                have c47b1 : (t141 != 3) = false := bne_eq_false_iff_eq.mpr c47
                                clear c47
                                obtain rfl := Option.some.inj H
                                go_wp2_with (first | ((with_reducible refine gate_callee (f := 15) rfl ?_); refine goesL_ (some 143) rfl rfl Try.func15 (by kernel_rfl) rfl #[.int .u64 x22_20] rfl (by (try simp only [List.map_toArray, List.map_cons, List.map_nil]); first | done | rfl | (simp only [List.length_drop, List.length_take]; rfl)) ?_; (with_reducible refine (word_Parts.calls x22_20 t147 t148 t149 _ A32.out).mono ?_); rintro e w' ⟨rfl, ⟨nd, rfl⟩⟩; refine ⟨_, rfl, ?_⟩))
                                go_ret
                                exact ⟨by first | rfl | (simp; done) | (simp [*]; done), by repeat (first | exact Drawn0.refl _ | apply Drawn0.step)⟩
                              · rw [if_neg c47] at H
                                have c47b0 : (t141 == 3) = false := beq_eq_false_iff_ne.mpr c47
                                have c47b1 : (t141 != 3) = true := bne_iff_ne.mpr c47
                                obtain rfl := Option.some.inj H
                                go_wp2_with (first | ((with_reducible refine gate_callee (f := 15) rfl ?_); refine goesL_ (some 143) rfl rfl Try.func15 (by kernel_rfl) rfl #[.int .u64 x22_20] rfl (by (try simp only [List.map_toArray, List.map_cons, List.map_nil]); first | done | rfl | (simp only [List.length_drop, List.length_take]; rfl)) ?_; (with_reducible refine (word_Parts.calls x22_20 t147 t148 t149 _ A32.out).mono ?_); rintro e w' ⟨rfl, ⟨nd, rfl⟩⟩; refine ⟨_, rfl, ?_⟩))
                                go_ret
                                exact ⟨by first | rfl | (simp; done) | (simp [*]; done), by repeat (first | exact Drawn0.refl _ | apply Drawn0.step)⟩
                        · replace c44 := Bool.eq_false_iff.mpr c44
                          subst c44
                          have H1 : (some false) = some r := by rw [if_neg (show ¬ (false = true) by decide)] at H; exact H
                          clear H
                          have H := H1
                          clear H1
                          obtain rfl := Option.some.inj H
                          go_wp2_with (first | ((with_reducible refine gate_callee (f := 15) rfl ?_); refine goesL_ (some 143) rfl rfl Try.func15 (by kernel_rfl) rfl #[.int .u64 x22_20] rfl (by (try simp only [List.map_toArray, List.map_cons, List.map_nil]); first | done | rfl | (simp only [List.length_drop, List.length_take]; rfl)) ?_; (with_reducible refine (word_Parts.calls x22_20 t147 t148 t149 _ A32.out).mono ?_); rintro e w' ⟨rfl, ⟨nd, rfl⟩⟩; refine ⟨_, rfl, ?_⟩))
                          go_ret
                          exact ⟨by first | rfl | (simp; done) | (simp [*]; done), by repeat (first | exact Drawn0.refl _ | apply Drawn0.step)⟩
                      · rw [if_neg c43] at H
                        have c43b0 : (t148 == a0) = false := beq_eq_false_iff_ne.mpr c43
                        have c43b1 : (t148 != a0) = true := bne_iff_ne.mpr c43
                        obtain rfl := Option.some.inj H
                        go_wp2_with (first | ((with_reducible refine gate_callee (f := 15) rfl ?_); refine goesL_ (some 143) rfl rfl Try.func15 (by kernel_rfl) rfl #[.int .u64 x22_20] rfl (by (try simp only [List.map_toArray, List.map_cons, List.map_nil]); first | done | rfl | (simp only [List.length_drop, List.length_take]; rfl)) ?_; (with_reducible refine (word_Parts.calls x22_20 t147 t148 t149 _ A32.out).mono ?_); rintro e w' ⟨rfl, ⟨nd, rfl⟩⟩; refine ⟨_, rfl, ?_⟩))
                        go_ret
                        exact ⟨by first | rfl | (simp; done) | (simp [*]; done), by repeat (first | exact Drawn0.refl _ | apply Drawn0.step)⟩

/-- THE ONE PURE STATEMENT of varvelaw05_WordSettles: yours. -/
def varvelaw05_WordSettles.Pure : Prop := ∀ (a0 : Int) (a1 : Int) (a2 : Int) (a3 : Int) (a4 : Int) (a5 : Bool), (Lit.int .i64 a0).wf = true → (Lit.int .i64 a1).wf = true → (Lit.int .i64 a2).wf = true → (Lit.int .i64 a3).wf = true → (Lit.int .u64 a4).wf = true → ∃ k, varvelaw05_WordSettles.f k a0 a1 a2 a3 a4 a5 = some true
theorem varvelaw05_WordSettles.walk (P : varvelaw05_WordSettles.Pure) (a0 : Int) (a1 : Int) (a2 : Int) (a3 : Int) (a4 : Int) (a5 : Bool) (w : World) (w0 : (Lit.int .i64 a0).wf = true) (w1 : (Lit.int .i64 a1).wf = true) (w2 : (Lit.int .i64 a2).wf = true) (w3 : (Lit.int .i64 a3).wf = true) (w4 : (Lit.int .u64 a4).wf = true) :
    Calls Try.prog 6 #[.int .i64 a0, .int .i64 a1, .int .i64 a2, .int .i64 a3, .int .u64 a4, .bool a5] w fun e w' => e = .returned (.bool true) ∧ Below w.heap.size w w' := by
  obtain ⟨k, h⟩ := P a0 a1 a2 a3 a4 a5 w0 w1 w2 w3 w4
  refine (varvelaw05_WordSettles.calls k a0 a1 a2 a3 a4 a5 true w h).mono ?_
  rintro e w' ⟨rfl, hd⟩
  exact ⟨rfl, hd.below⟩

end Go.Proofs.Ytdonoibopbhfoaa.PWordSettles
