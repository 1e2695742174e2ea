-- PRINTED BY print.sh 35421559b90ae4d0a3588c463048766b98c2df88dd9212a6774a882060cdf62d: not written by this session
import Derived.Test.YtdonoibopbhfoaaPWordOwnx0
import Derived.Test.YtdonoibopbhfoaaPWordOwnx1
import Derived.Test.YtdonoibopbhfoaaPWordOwnx2
namespace Go.Proofs.Ytdonoibopbhfoaa.PWordOwn
open Go.RowKit Go.Proofs.YtdonoibopbhfoaaW.PrintWords Go.Proofs.YtdonoibopbhfoaaW.PrintLast Go.Proofs.YtdonoibopbhfoaaW.PrintMore
attribute [local go_sem] max2_int min2_int max_two min_two max_three min_three max_four min_four   -- for this text's walks alone
set_option linter.unusedVariables false
set_option linter.unusedSimpArgs false

/-! ### varvelaw05_WordOwn: function 5 -/
mutual
def varvelaw05_WordOwn.j0 : Nat → Int → Int → Bool → Int → Int → Int → Int → Int → Int → Int → Bool → Option (Bool)
  | 0, _, _, _, _, _, _, _, _, _, _, _ => none
  | k + 1, x0, x1, x7, x11, x12, x13, x14, x15, x16, x17, x60 => if x60 = true then (some x7) else (if x11 = 0 then (if x13 = 0 then (if x15 = 0 then (if x12 = 1 then (varvelaw05_WordOwn.j1 k x0 x1 x7 x16 x17 (x14 != 2)) else (varvelaw05_WordOwn.j1 k x0 x1 x7 x16 x17 true)) else (varvelaw05_WordOwn.j1 k x0 x1 x7 x16 x17 true)) else (varvelaw05_WordOwn.j1 k x0 x1 x7 x16 x17 true)) else (varvelaw05_WordOwn.j1 k x0 x1 x7 x16 x17 true))
def varvelaw05_WordOwn.j1 : Nat → Int → Int → Bool → Int → Int → Bool → Option (Bool)
  | 0, _, _, _, _, _, _ => none
  | k + 1, x0, x1, x7, x16, x17, x79 => if x79 = true then (some false) else (if x1 < 0 then (if x7 = true then (some (x17 == 50)) else (some false)) else (if x1 ≥ 1048576 then (if x7 = true then (some (x17 == 50)) else (some false)) else (if x7 = true then (if x17 = 0 then (if x16 = 2 then (some true) else (if x1 = x0 then (some (x16 == 1)) else (some false))) else (some false)) else (some false))))
end
def varvelaw05_WordOwn.f (k : Nat) (a0 : Int) (a1 : Int) (a2 : Int) : Option (Bool) := (varvelaw05_shown.f k).bind fun t129 => ((word_Owner.f a0).bind fun bt130 => ((word_State.f k 0 0).bind fun bt132 => ((word_Sees.f k a0 a2 bt130.1 1099511627776 0 0).bind fun bt134 => ((word_Sees.f k a0 a2 bt130.1 bt130.1 0 0).bind fun bt136 => ((word_Sees.f k a1 a2 bt130.1 1099511627776 bt132.1 0).bind fun bt138 => (if bt130.2 = 0 then (if a2 < 0 then (varvelaw05_WordOwn.j0 k a0 a1 t129 bt132.2 bt134.1 bt134.2 bt136.1 bt136.2 bt138.1 bt138.2 true) else (varvelaw05_WordOwn.j0 k a0 a1 t129 bt132.2 bt134.1 bt134.2 bt136.1 bt136.2 bt138.1 bt138.2 (decide (a2 ≥ 1099511627776)))) else (varvelaw05_WordOwn.j0 k a0 a1 t129 bt132.2 bt134.1 bt134.2 bt136.1 bt136.2 bt138.1 bt138.2 true)))))))
theorem varvelaw05_WordOwn.mono_l : ∀ k, (∀ y0 y1 y2 y3 y4 y5 y6 y7 y8 y9 y10, LeO (varvelaw05_WordOwn.j0 k y0 y1 y2 y3 y4 y5 y6 y7 y8 y9 y10) (varvelaw05_WordOwn.j0 (k + 1) y0 y1 y2 y3 y4 y5 y6 y7 y8 y9 y10)) ∧ (∀ y0 y1 y2 y3 y4 y5, LeO (varvelaw05_WordOwn.j1 k y0 y1 y2 y3 y4 y5) (varvelaw05_WordOwn.j1 (k + 1) y0 y1 y2 y3 y4 y5))
  | 0 => ⟨fun _ _ _ _ _ _ _ _ _ _ _ r h => by simp [varvelaw05_WordOwn.j0] at h, fun _ _ _ _ _ _ r h => by simp [varvelaw05_WordOwn.j1] at h⟩
  | k + 1 => by
    obtain ⟨ih0, ih1⟩ := varvelaw05_WordOwn.mono_l k
    refine ⟨?_, ?_⟩
    · intro y0 y1 y2 y3 y4 y5 y6 y7 y8 y9 y10
      unfold varvelaw05_WordOwn.j0
      repeat' first
      | (with_reducible exact ih0 _ _ _ _ _ _ _ _ _ _ _)
      | (with_reducible exact ih1 _ _ _ _ _ _)
      | (with_reducible exact varvelaw05_shown.mono _)
      | (with_reducible exact word_Sees.mono _ _ _ _ _ _ _)
      | (with_reducible exact word_State.mono _ _ _)
      | (with_reducible exact LeO.refl _)
      | (with_reducible exact LeO.none _)
      | (with_reducible refine LeO.ite ?_ ?_)
      | (with_reducible refine LeO.bind ?_ (fun _ => ?_))
      | exact ih0 _ _ _ _ _ _ _ _ _ _ _
      | exact ih1 _ _ _ _ _ _
      | exact varvelaw05_shown.mono _
      | exact word_Sees.mono _ _ _ _ _ _ _
      | exact word_State.mono _ _ _
      | exact LeO.none _
      | refine LeO.ite ?_ ?_
      | refine LeO.bind ?_ (fun _ => ?_)
    · intro y0 y1 y2 y3 y4 y5
      unfold varvelaw05_WordOwn.j1
      repeat' first
      | (with_reducible exact ih0 _ _ _ _ _ _ _ _ _ _ _)
      | (with_reducible exact ih1 _ _ _ _ _ _)
      | (with_reducible exact varvelaw05_shown.mono _)
      | (with_reducible exact word_Sees.mono _ _ _ _ _ _ _)
      | (with_reducible exact word_State.mono _ _ _)
      | (with_reducible exact LeO.refl _)
      | (with_reducible exact LeO.none _)
      | (with_reducible refine LeO.ite ?_ ?_)
      | (with_reducible refine LeO.bind ?_ (fun _ => ?_))
      | exact ih0 _ _ _ _ _ _ _ _ _ _ _
      | exact ih1 _ _ _ _ _ _
      | exact varvelaw05_shown.mono _
      | exact word_Sees.mono _ _ _ _ _ _ _
      | exact word_State.mono _ _ _
      | exact LeO.none _
      | refine LeO.ite ?_ ?_
      | refine LeO.bind ?_ (fun _ => ?_)
theorem varvelaw05_WordOwn.mono : ∀ a0 a1 a2 k, LeO (varvelaw05_WordOwn.f k a0 a1 a2) (varvelaw05_WordOwn.f (k + 1) a0 a1 a2) := by
  intro a0 a1 a2 k
  obtain ⟨ih0, ih1⟩ := varvelaw05_WordOwn.mono_l k
  unfold varvelaw05_WordOwn.f
  repeat' first
      | (with_reducible exact ih0 _ _ _ _ _ _ _ _ _ _ _)
      | (with_reducible exact ih1 _ _ _ _ _ _)
      | (with_reducible exact varvelaw05_shown.mono _)
      | (with_reducible exact word_Sees.mono _ _ _ _ _ _ _)
      | (with_reducible exact word_State.mono _ _ _)
      | (with_reducible exact LeO.refl _)
      | (with_reducible exact LeO.none _)
      | (with_reducible refine LeO.ite ?_ ?_)
      | (with_reducible refine LeO.bind ?_ (fun _ => ?_))
      | exact ih0 _ _ _ _ _ _ _ _ _ _ _
      | exact ih1 _ _ _ _ _ _
      | exact varvelaw05_shown.mono _
      | exact word_Sees.mono _ _ _ _ _ _ _
      | exact word_State.mono _ _ _
      | exact LeO.none _
      | refine LeO.ite ?_ ?_
      | refine LeO.bind ?_ (fun _ => ?_)
set_option maxHeartbeats 8000000 in
set_option maxRecDepth 100000 in
theorem varvelaw05_WordOwn.calls (k : Nat) (a0 : Int) (a1 : Int) (a2 : Int) (r : Bool) (w : World) (h : varvelaw05_WordOwn.f k a0 a1 a2 = some r) :
    Calls Try.prog 5 #[.int .i64 a0, .int .i64 a1, .int .i64 a2] w fun e w' => e = .returned (.bool r) ∧ Drawn0 w w' := by
  have H : ((varvelaw05_shown.f k).bind fun t129 => ((word_Owner.f a0).bind fun bt130 => ((word_State.f k 0 0).bind fun bt132 => ((word_Sees.f k a0 a2 bt130.1 1099511627776 0 0).bind fun bt134 => ((word_Sees.f k a0 a2 bt130.1 bt130.1 0 0).bind fun bt136 => ((word_Sees.f k a1 a2 bt130.1 1099511627776 bt132.1 0).bind fun bt138 => (if bt130.2 = 0 then (if a2 < 0 then (varvelaw05_WordOwn.j0 k a0 a1 t129 bt132.2 bt134.1 bt134.2 bt136.1 bt136.2 bt138.1 bt138.2 true) else (varvelaw05_WordOwn.j0 k a0 a1 t129 bt132.2 bt134.1 bt134.2 bt136.1 bt136.2 bt138.1 bt138.2 (decide (a2 ≥ 1099511627776)))) else (varvelaw05_WordOwn.j0 k a0 a1 t129 bt132.2 bt134.1 bt134.2 bt136.1 bt136.2 bt138.1 bt138.2 true)))))))) = some r := h
  clear h
  replace H := Option.bind_eq_some_iff.mp H
  obtain ⟨t129, A40, H⟩ := H
  replace H : ((word_Owner.f a0).bind fun bt130 => ((word_State.f k 0 0).bind fun bt132 => ((word_Sees.f k a0 a2 bt130.1 1099511627776 0 0).bind fun bt134 => ((word_Sees.f k a0 a2 bt130.1 bt130.1 0 0).bind fun bt136 => ((word_Sees.f k a1 a2 bt130.1 1099511627776 bt132.1 0).bind fun bt138 => (if bt130.2 = 0 then (if a2 < 0 then (varvelaw05_WordOwn.j0 k a0 a1 t129 bt132.2 bt134.1 bt134.2 bt136.1 bt136.2 bt138.1 bt138.2 true) else (varvelaw05_WordOwn.j0 k a0 a1 t129 bt132.2 bt134.1 bt134.2 bt136.1 bt136.2 bt138.1 bt138.2 (decide (a2 ≥ 1099511627776)))) else (varvelaw05_WordOwn.j0 k a0 a1 t129 bt132.2 bt134.1 bt134.2 bt136.1 bt136.2 bt138.1 bt138.2 true))))))) = some r := H
  have A4 := Aside0.mk A40
  clear A40
  replace H := Option.bind_eq_some_iff.mp H
  obtain ⟨⟨t130, t131⟩, A50, H⟩ := H
  replace H : ((word_State.f k 0 0).bind fun bt132 => ((word_Sees.f k a0 a2 t130 1099511627776 0 0).bind fun bt134 => ((word_Sees.f k a0 a2 t130 t130 0 0).bind fun bt136 => ((word_Sees.f k a1 a2 t130 1099511627776 bt132.1 0).bind fun bt138 => (if t131 = 0 then (if a2 < 0 then (varvelaw05_WordOwn.j0 k a0 a1 t129 bt132.2 bt134.1 bt134.2 bt136.1 bt136.2 bt138.1 bt138.2 true) else (varvelaw05_WordOwn.j0 k a0 a1 t129 bt132.2 bt134.1 bt134.2 bt136.1 bt136.2 bt138.1 bt138.2 (decide (a2 ≥ 1099511627776)))) else (varvelaw05_WordOwn.j0 k a0 a1 t129 bt132.2 bt134.1 bt134.2 bt136.1 bt136.2 bt138.1 bt138.2 true)))))) = some r := H
  have A5 := Aside0.mk A50
  clear A50
  replace H := Option.bind_eq_some_iff.mp H
  obtain ⟨⟨t132, t133⟩, A60, H⟩ := H
  replace H : ((word_Sees.f k a0 a2 t130 1099511627776 0 0).bind fun bt134 => ((word_Sees.f k a0 a2 t130 t130 0 0).bind fun bt136 => ((word_Sees.f k a1 a2 t130 1099511627776 t132 0).bind fun bt138 => (if t131 = 0 then (if a2 < 0 then (varvelaw05_WordOwn.j0 k a0 a1 t129 t133 bt134.1 bt134.2 bt136.1 bt136.2 bt138.1 bt138.2 true) else (varvelaw05_WordOwn.j0 k a0 a1 t129 t133 bt134.1 bt134.2 bt136.1 bt136.2 bt138.1 bt138.2 (decide (a2 ≥ 1099511627776)))) else (varvelaw05_WordOwn.j0 k a0 a1 t129 t133 bt134.1 bt134.2 bt136.1 bt136.2 bt138.1 bt138.2 true))))) = some r := H
  have A6 := Aside0.mk A60
  clear A60
  replace H := Option.bind_eq_some_iff.mp H
  obtain ⟨⟨t134, t135⟩, A70, H⟩ := H
  replace H : ((word_Sees.f k a0 a2 t130 t130 0 0).bind fun bt136 => ((word_Sees.f k a1 a2 t130 1099511627776 t132 0).bind fun bt138 => (if t131 = 0 then (if a2 < 0 then (varvelaw05_WordOwn.j0 k a0 a1 t129 t133 t134 t135 bt136.1 bt136.2 bt138.1 bt138.2 true) else (varvelaw05_WordOwn.j0 k a0 a1 t129 t133 t134 t135 bt136.1 bt136.2 bt138.1 bt138.2 (decide (a2 ≥ 1099511627776)))) else (varvelaw05_WordOwn.j0 k a0 a1 t129 t133 t134 t135 bt136.1 bt136.2 bt138.1 bt138.2 true)))) = some r := H
  have A7 := Aside0.mk A70
  clear A70
  replace H := Option.bind_eq_some_iff.mp H
  obtain ⟨⟨t136, t137⟩, A80, H⟩ := H
  replace H : ((word_Sees.f k a1 a2 t130 1099511627776 t132 0).bind fun bt138 => (if t131 = 0 then (if a2 < 0 then (varvelaw05_WordOwn.j0 k a0 a1 t129 t133 t134 t135 t136 t137 bt138.1 bt138.2 true) else (varvelaw05_WordOwn.j0 k a0 a1 t129 t133 t134 t135 t136 t137 bt138.1 bt138.2 (decide (a2 ≥ 1099511627776)))) else (varvelaw05_WordOwn.j0 k a0 a1 t129 t133 t134 t135 t136 t137 bt138.1 bt138.2 true))) = some r := H
  have A8 := Aside0.mk A80
  clear A80
  replace H := Option.bind_eq_some_iff.mp H
  obtain ⟨⟨t138, t139⟩, A90, H⟩ := H
  replace H : (if t131 = 0 then (if a2 < 0 then (varvelaw05_WordOwn.j0 k a0 a1 t129 t133 t134 t135 t136 t137 t138 t139 true) else (varvelaw05_WordOwn.j0 k a0 a1 t129 t133 t134 t135 t136 t137 t138 t139 (decide (a2 ≥ 1099511627776)))) else (varvelaw05_WordOwn.j0 k a0 a1 t129 t133 t134 t135 t136 t137 t138 t139 true)) = some r := H
  have A9 := Aside0.mk A90
  clear A90
  have HC10 := Aside0.mk H
  clear H
  go_enter Try.func5, Try.ntmps5
  go_upto_region 7 with (first | ((with_reducible refine gate_callee (f := 9) rfl ?_); refine goesL_ (some 18) rfl rfl Try.func9 (by kernel_rfl) rfl #[] rfl (by (try simp only [List.map_toArray, List.map_cons, List.map_nil]); first | done | rfl | (simp only [List.length_drop, List.length_take]; rfl)) ?_; (with_reducible refine (varvelaw05_shown.calls k  t129 _ A4.out).mono ?_); rintro e w' ⟨rfl, ⟨nd, rfl⟩⟩; refine ⟨_, rfl, ?_⟩) | ((with_reducible refine gate_callee (f := 13) rfl ?_); refine goesL_ (some 21) rfl rfl Try.func13 (by kernel_rfl) rfl #[.int .i64 a0] rfl (by (try simp only [List.map_toArray, List.map_cons, List.map_nil]); first | done | rfl | (simp only [List.length_drop, List.length_take]; rfl)) ?_; (with_reducible refine (word_Owner.calls a0 t130 t131 _ A5.out).mono ?_); rintro e w' ⟨rfl, ⟨nd, rfl⟩⟩; refine ⟨_, rfl, ?_⟩) | ((with_reducible refine gate_callee (f := 14) rfl ?_); refine goesL_ (some 25) rfl rfl Try.func14 (by kernel_rfl) rfl #[.int .i64 0, .int .i64 0] rfl (by (try simp only [List.map_toArray, List.map_cons, List.map_nil]); first | done | rfl | (simp only [List.length_drop, List.length_take]; rfl)) ?_; (with_reducible refine (word_State.calls k 0 0 t132 t133 _ A6.out).mono ?_); rintro e w' ⟨rfl, ⟨nd, rfl⟩⟩; refine ⟨_, rfl, ?_⟩) | ((with_reducible refine gate_callee (f := 10) rfl ?_); refine goesL_ (some 32) rfl rfl Try.func10 (by kernel_rfl) rfl #[.int .i64 a0, .int .i64 a2, .int .u64 t130, .int .u64 1099511627776, .int .u64 0, .int .u64 0] rfl (by (try simp only [List.map_toArray, List.map_cons, List.map_nil]); first | done | rfl | (simp only [List.length_drop, List.length_take]; rfl)) ?_; (with_reducible refine (word_Sees.calls k a0 a2 t130 1099511627776 0 0 t134 t135 _ A7.out).mono ?_); rintro e w' ⟨rfl, ⟨nd, rfl⟩⟩; refine ⟨_, rfl, ?_⟩) | ((with_reducible refine gate_callee (f := 10) rfl ?_); refine goesL_ (some 40) rfl rfl Try.func10 (by kernel_rfl) rfl #[.int .i64 a0, .int .i64 a2, .int .u64 t130, .int .u64 t130, .int .u64 0, .int .u64 0] rfl (by (try simp only [List.map_toArray, List.map_cons, List.map_nil]); first | done | rfl | (simp only [List.length_drop, List.length_take]; rfl)) ?_; (with_reducible refine (word_Sees.calls k a0 a2 t130 t130 0 0 t136 t137 _ A8.out).mono ?_); rintro e w' ⟨rfl, ⟨nd, rfl⟩⟩; refine ⟨_, rfl, ?_⟩) | ((with_reducible refine gate_callee (f := 10) rfl ?_); refine goesL_ (some 48) rfl rfl Try.func10 (by kernel_rfl) rfl #[.int .i64 a1, .int .i64 a2, .int .u64 t130, .int .u64 1099511627776, .int .u64 t132, .int .u64 0] rfl (by (try simp only [List.map_toArray, List.map_cons, List.map_nil]); first | done | rfl | (simp only [List.length_drop, List.length_take]; rfl)) ?_; (with_reducible refine (word_Sees.calls k a1 a2 t130 1099511627776 t132 0 t138 t139 _ A9.out).mono ?_); rintro e w' ⟨rfl, ⟨nd, rfl⟩⟩; refine ⟨_, rfl, ?_⟩))
  (try simp only [Act.put, List.setIfInBounds_toArray, List.set_cons_zero, List.set_cons_succ])
  go_cut [60] (fun v60 wc => ∃ (kq : Nat) (x60_9 : Bool), v60 = .bool x60_9 ∧ Aside0 (varvelaw05_WordOwn.j0 kq a0 a1 t129 t133 t134 t135 t136 t137 t138 t139 x60_9 = some r) ∧ Aside0 (kq ≤ k) ∧ Drawn0 w wc)
  case first =>
    have H := HC10.out
    clear HC10
    by_cases c11 : t131 = 0
    · rw [if_pos c11] at H
      have c11b0 : (t131 == 0) = true := beq_iff_eq.mpr c11
      have c11b1 : (t131 != 0) = false := bne_eq_false_iff_eq.mpr c11
      clear c11
      (first | rw [c11b0] | (simp only [i64_w, i32_w]; rw [c11b0]) | skip)
      by_cases c12 : a2 < 0
      · rw [if_pos c12] at H
        have c12b0 : decide (a2 < 0) = true := decide_eq_true c12
        clear c12
        have H' := Aside0.mk H
        clear H
        go_wp2
        go_meet
        case rel => exact ⟨_, (true), (by first | rfl | (simp; done) | (simp [*]; done)), H', ⟨by first | omega | exact Nat.le_refl _⟩, by repeat (first | exact Drawn0.refl _ | apply Drawn0.step)⟩
      · rw [if_neg c12] at H
        have c12b0 : decide (a2 < 0) = false := decide_eq_false c12
        clear c12
        have H' := Aside0.mk H
        clear H
        go_wp2
        go_meet
        case rel => exact ⟨_, (decide (a2 ≥ 1099511627776)), (by first | rfl | (simp; done) | (simp [*]; done)), H', ⟨by first | omega | exact Nat.le_refl _⟩, by repeat (first | exact Drawn0.refl _ | apply Drawn0.step)⟩
    · rw [if_neg c11] at H
      have c11b0 : (t131 == 0) = false := beq_eq_false_iff_ne.mpr c11
      have c11b1 : (t131 != 0) = true := bne_iff_ne.mpr c11
      (first | rw [c11b0] | (simp only [i64_w, i32_w]; rw [c11b0]) | skip)
      have H' := Aside0.mk H
      clear H
      go_wp2
      go_meet
      case rel => exact ⟨_, (true), (by first | rfl | (simp; done) | (simp [*]; done)), H', ⟨by first | omega | exact Nat.le_refl _⟩, by repeat (first | exact Drawn0.refl _ | apply Drawn0.step)⟩
  case rest =>
    clear HC10
    try clear c1
    try clear p2
    try clear c5
    try clear c9
    try clear c10
    try clear c11
    try clear c11b0
    try clear c11b1
    try clear c12
    try clear c12b0
    obtain ⟨kq, x60_9, rfl, HA, HJ9, ⟨mc9, rfl⟩⟩ := hcut
    cases kq with
    | zero => exact absurd HA.out (by simp [varvelaw05_WordOwn.j0])
    | succ kj9 =>
      have H := HA.out
      clear HA
      simp only [varvelaw05_WordOwn.j0] at H
      by_cases c13 : x60_9 = true
      · subst c13
        have H1 : (some t129) = some r := by rw [if_pos rfl] at H; exact H
        clear H
        have H := H1
        clear H1
        obtain rfl := Option.some.inj H
        go_wp2
        go_ret
        exact ⟨by first | rfl | (simp; done) | (simp [*]; done), by repeat (first | exact Drawn0.refl _ | apply Drawn0.step)⟩
      · replace c13 := Bool.eq_false_iff.mpr c13
        subst c13
        have H1 : (if t133 = 0 then (if t135 = 0 then (if t137 = 0 then (if t134 = 1 then (varvelaw05_WordOwn.j1 kj9 a0 a1 t129 t138 t139 (t136 != 2)) else (varvelaw05_WordOwn.j1 kj9 a0 a1 t129 t138 t139 true)) else (varvelaw05_WordOwn.j1 kj9 a0 a1 t129 t138 t139 true)) else (varvelaw05_WordOwn.j1 kj9 a0 a1 t129 t138 t139 true)) else (varvelaw05_WordOwn.j1 kj9 a0 a1 t129 t138 t139 true)) = some r := by rw [if_neg (show ¬ (false = true) by decide)] at H; exact H
        clear H
        have H := H1
        clear H1
        have HC14 := Aside0.mk H
        clear H
        go_upto_region 9 with (fail)
        go_cut [79] (fun v79 wc => ∃ (kq : Nat) (x79_13 : Bool), v79 = .bool x79_13 ∧ Aside0 (varvelaw05_WordOwn.j1 kq a0 a1 t129 t138 t139 x79_13 = some r) ∧ Aside0 (kq ≤ kj9) ∧ Drawn0 w wc)
        case first =>
          have H := HC14.out
          clear HC14
          by_cases c15 : t133 = 0
          · rw [if_pos c15] at H
            have c15b0 : (t133 == 0) = true := beq_iff_eq.mpr c15
            have c15b1 : (t133 != 0) = false := bne_eq_false_iff_eq.mpr c15
            clear c15
            (first | rw [c15b0] | (simp only [i64_w, i32_w]; rw [c15b0]) | skip)
            by_cases c16 : t135 = 0
            · rw [if_pos c16] at H
              have c16b0 : (t135 == 0) = true := beq_iff_eq.mpr c16
              have c16b1 : (t135 != 0) = false := bne_eq_false_iff_eq.mpr c16
              clear c16
              by_cases c17 : t137 = 0
              · rw [if_pos c17] at H
                have c17b0 : (t137 == 0) = true := beq_iff_eq.mpr c17
                have c17b1 : (t137 != 0) = false := bne_eq_false_iff_eq.mpr c17
                clear c17
                by_cases c18 : t134 = 1
                · rw [if_pos c18] at H
                  have c18b0 : (t134 == 1) = true := beq_iff_eq.mpr c18
                  have c18b1 : (t134 != 1) = false := bne_eq_false_iff_eq.mpr c18
                  clear c18
                  have H' := Aside0.mk H
                  clear H
                  go_wp2
                  go_meet
                  case rel => exact ⟨_, ((t136 != 2)), (by first | rfl | (simp; done) | (simp [*]; done)), H', ⟨by have := HJ9.out; first | omega | exact Nat.le_refl _⟩, by repeat (first | exact Drawn0.refl _ | apply Drawn0.step)⟩
                · rw [if_neg c18] at H
                  have c18b0 : (t134 == 1) = false := beq_eq_false_iff_ne.mpr c18
                  have c18b1 : (t134 != 1) = true := bne_iff_ne.mpr c18
                  have H' := Aside0.mk H
                  clear H
                  go_wp2
                  go_meet
                  case rel => exact ⟨_, (true), (by first | rfl | (simp; done) | (simp [*]; done)), H', ⟨by have := HJ9.out; first | omega | exact Nat.le_refl _⟩, by repeat (first | exact Drawn0.refl _ | apply Drawn0.step)⟩
              · rw [if_neg c17] at H
                have c17b0 : (t137 == 0) = false := beq_eq_false_iff_ne.mpr c17
                have c17b1 : (t137 != 0) = true := bne_iff_ne.mpr c17
                have H' := Aside0.mk H
                clear H
                go_wp2
                go_meet
                case rel => exact ⟨_, (true), (by first | rfl | (simp; done) | (simp [*]; done)), H', ⟨by have := HJ9.out; first | omega | exact Nat.le_refl _⟩, by repeat (first | exact Drawn0.refl _ | apply Drawn0.step)⟩
            · rw [if_neg c16] at H
              have c16b0 : (t135 == 0) = false := beq_eq_false_iff_ne.mpr c16
              have c16b1 : (t135 != 0) = true := bne_iff_ne.mpr c16
              have H' := Aside0.mk H
              clear H
              go_wp2
              go_meet
              case rel => exact ⟨_, (true), (by first | rfl | (simp; done) | (simp [*]; done)), H', ⟨by have := HJ9.out; first | omega | exact Nat.le_refl _⟩, by repeat (first | exact Drawn0.refl _ | apply Drawn0.step)⟩
          · rw [if_neg c15] at H
            have c15b0 : (t133 == 0) = false := beq_eq_false_iff_ne.mpr c15
            have c15b1 : (t133 != 0) = true := bne_iff_ne.mpr c15
            (first | rw [c15b0] | (simp only [i64_w, i32_w]; rw [c15b0]) | skip)
            have H' := Aside0.mk H
            clear H
            go_wp2
            go_meet
            case rel => exact ⟨_, (true), (by first | rfl | (simp; done) | (simp [*]; done)), H', ⟨by have := HJ9.out; first | omega | exact Nat.le_refl _⟩, by repeat (first | exact Drawn0.refl _ | apply Drawn0.step)⟩
        case rest =>
          clear HC14
          try clear c1
          try clear p2
          try clear c5
          try clear c9
          try clear c10
          try clear c11
          try clear c11b0
          try clear c11b1
          try clear c12
          try clear c12b0
          try clear c13
          try clear c14
          try clear c15
          try clear c15b0
          try clear c15b1
          try clear c16
          try clear c16b0
          try clear c16b1
          try clear c17
          try clear c17b0
          try clear c17b1
          try clear c18
          try clear c18b0
          try clear c18b1
          try clear p2
          obtain ⟨kq, x79_13, rfl, HA, HJ13, ⟨mc13, rfl⟩⟩ := hcut
          cases kq with
          | zero => exact absurd HA.out (by simp [varvelaw05_WordOwn.j1])
          | succ kj13 =>
            have H := HA.out
            clear HA
            simp only [varvelaw05_WordOwn.j1] at H
            by_cases c19 : x79_13 = true
            · subst c19
              have H1 : (some false) = some r := by rw [if_pos rfl] at H; exact H
              clear H
              have H := H1
              clear H1
              obtain rfl := Option.some.inj H
              go_wp2
              go_ret
              exact ⟨by first | rfl | (simp; done) | (simp [*]; done), by repeat (first | exact Drawn0.refl _ | apply Drawn0.step)⟩
            · replace c19 := Bool.eq_false_iff.mpr c19
              subst c19
              have H1 : (if a1 < 0 then (if t129 = true then (some (t139 == 50)) else (some false)) else (if a1 ≥ 1048576 then (if t129 = true then (some (t139 == 50)) else (some false)) else (if t129 = true then (if t139 = 0 then (if t138 = 2 then (some true) else (if a1 = a0 then (some (t138 == 1)) else (some false))) else (some false)) else (some false)))) = some r := by rw [if_neg (show ¬ (false = true) by decide)] at H; exact H
              clear H
              have H := H1
              clear H1
              by_cases c20 : a1 < 0
              · rw [if_pos c20] at H
                have c20b0 : decide (a1 < 0) = true := decide_eq_true c20
                clear c20
                by_cases c21 : t129 = true
                · subst c21
                  have H1 : (some (t139 == 50)) = some r := by rw [if_pos rfl] at H; exact H
                  clear H
                  have H := H1
                  clear H1
                  obtain rfl := Option.some.inj H
                  go_wp2
                  go_ret
                  exact ⟨by first | rfl | (simp; done) | (simp [*]; done), by repeat (first | exact Drawn0.refl _ | apply Drawn0.step)⟩
                · replace c21 := Bool.eq_false_iff.mpr c21
                  subst c21
                  have H1 : (some false) = some r := by rw [if_neg (show ¬ (false = true) by decide)] at H; exact H
                  clear H
                  have H := H1
                  clear H1
                  obtain rfl := Option.some.inj H
                  go_wp2
                  go_ret
                  exact ⟨by first | rfl | (simp; done) | (simp [*]; done), by repeat (first | exact Drawn0.refl _ | apply Drawn0.step)⟩
              · rw [if_neg c20] at H
                have c20b0 : decide (a1 < 0) = false := decide_eq_false c20
                clear c20
                by_cases c22 : a1 ≥ 1048576
                · rw [if_pos c22] at H
                  have c22b0 : decide (1048576 ≤ a1) = true := decide_eq_true c22
                  clear c22
                  by_cases c23 : t129 = true
                  · subst c23
                    have H1 : (some (t139 == 50)) = some r := by rw [if_pos rfl] at H; exact H
                    clear H
                    have H := H1
                    clear H1
                    obtain rfl := Option.some.inj H
                    go_wp2
                    go_ret
                    exact ⟨by first | rfl | (simp; done) | (simp [*]; done), by repeat (first | exact Drawn0.refl _ | apply Drawn0.step)⟩
                  · replace c23 := Bool.eq_false_iff.mpr c23
                    subst c23
                    have H1 : (some false) = some r := by rw [if_neg (show ¬ (false = true) by decide)] at H; exact H
                    clear H
                    have H := H1
                    clear H1
                    obtain rfl := Option.some.inj H
                    go_wp2
                    go_ret
                    exact ⟨by first | rfl | (simp; done) | (simp [*]; done), by repeat (first | exact Drawn0.refl _ | apply Drawn0.step)⟩
                · rw [if_neg c22] at H
                  have c22b0 : decide (1048576 ≤ a1) = false := decide_eq_false c22
                  clear c22
                  by_cases c24 : t129 = true
                  · subst c24
                    have H1 : (if t139 = 0 then (if t138 = 2 then (some true) else (if a1 = a0 then (some (t138 == 1)) else (some false))) else (some false)) = some r := by rw [if_pos rfl] at H; exact H
                    clear H
                    have H := H1
                    clear H1
                    by_cases c25 : t139 = 0
                    · rw [if_pos c25] at H
                      have c25b0 : (t139 == 0) = true := beq_iff_eq.mpr c25
                      have c25b1 : (t139 != 0) = false := bne_eq_false_iff_eq.mpr c25
                      clear c25
                      by_cases c26 : t138 = 2
                      · rw [if_pos c26] at H
                        have c26b0 : (t138 == 2) = true := beq_iff_eq.mpr c26
                        have c26b1 : (t138 != 2) = false := bne_eq_false_iff_eq.mpr c26
                        clear c26
                        obtain rfl := Option.some.inj H
                        go_wp2
                        go_ret
                        exact ⟨by first | rfl | (simp; done) | (simp [*]; done), by repeat (first | exact Drawn0.refl _ | apply Drawn0.step)⟩
                      · rw [if_neg c26] at H
                        have c26b0 : (t138 == 2) = false := beq_eq_false_iff_ne.mpr c26
                        have c26b1 : (t138 != 2) = true := bne_iff_ne.mpr c26
                        by_cases c27 : a1 = a0
                        · rw [if_pos c27] at H
                          have c27b0 : (a1 == a0) = true := beq_iff_eq.mpr c27
                          have c27b1 : (a1 != a0) = false := bne_eq_false_iff_eq.mpr c27
                          clear c27
                          obtain rfl := Option.some.inj H
                          go_wp2
                          go_ret
                          exact ⟨by first | rfl | (simp; done) | (simp [*]; done), by repeat (first | exact Drawn0.refl _ | apply Drawn0.step)⟩
                        · rw [if_neg c27] at H
                          have c27b0 : (a1 == a0) = false := beq_eq_false_iff_ne.mpr c27
                          have c27b1 : (a1 != a0) = true := bne_iff_ne.mpr c27
                          obtain rfl := Option.some.inj H
                          go_wp2
                          go_ret
                          exact ⟨by first | rfl | (simp; done) | (simp [*]; done), by repeat (first | exact Drawn0.refl _ | apply Drawn0.step)⟩
                    · rw [if_neg c25] at H
                      have c25b0 : (t139 == 0) = false := beq_eq_false_iff_ne.mpr c25
                      have c25b1 : (t139 != 0) = true := bne_iff_ne.mpr c25
                      obtain rfl := Option.some.inj H
                      go_wp2
                      go_ret
                      exact ⟨by first | rfl | (simp; done) | (simp [*]; done), by repeat (first | exact Drawn0.refl _ | apply Drawn0.step)⟩
                  · replace c24 := Bool.eq_false_iff.mpr c24
                    subst c24
                    have H1 : (some false) = some r := by rw [if_neg (show ¬ (false = true) by decide)] at H; exact H
                    clear H
                    have H := H1
                    clear H1
                    obtain rfl := Option.some.inj H
                    go_wp2
                    go_ret
                    exact ⟨by first | rfl | (simp; done) | (simp [*]; done), by repeat (first | exact Drawn0.refl _ | apply Drawn0.step)⟩

/-- THE ONE PURE STATEMENT of varvelaw05_WordOwn: yours. -/
def varvelaw05_WordOwn.Pure : Prop := ∀ (a0 : Int) (a1 : Int) (a2 : Int), (Lit.int .i64 a0).wf = true → (Lit.int .i64 a1).wf = true → (Lit.int .i64 a2).wf = true → ∃ k, varvelaw05_WordOwn.f k a0 a1 a2 = some true
theorem varvelaw05_WordOwn.walk (P : varvelaw05_WordOwn.Pure) (a0 : Int) (a1 : Int) (a2 : Int) (w : World) (w0 : (Lit.int .i64 a0).wf = true) (w1 : (Lit.int .i64 a1).wf = true) (w2 : (Lit.int .i64 a2).wf = true) :
    Calls Try.prog 5 #[.int .i64 a0, .int .i64 a1, .int .i64 a2] w fun e w' => e = .returned (.bool true) ∧ Below w.heap.size w w' := by
  obtain ⟨k, h⟩ := P a0 a1 a2 w0 w1 w2
  refine (varvelaw05_WordOwn.calls k a0 a1 a2 true w h).mono ?_
  rintro e w' ⟨rfl, hd⟩
  exact ⟨rfl, hd.below⟩

end Go.Proofs.Ytdonoibopbhfoaa.PWordOwn
