/- The walk of an arena's Do: each operation, at every arena, every cell, every word; any other kind. -/
import Derived.Test.YtfipoadgfebibaaDoorOwn
namespace Go.Proofs.YtfipoadgfebibaaDoor
open Go Go.RowKit
set_option linter.unusedVariables false

/-- What an operation answers, and what the arena is behind it. -/
def doS (S : Ar) (k c x y : Int) : Int × Int × Ar :=
  if k = 1 ∨ k = 2 ∨ k = 3 ∨ k = 4 then
    match (if 0 ≤ c then S.get c.toNat else none) with
    | none => (0, 30, S)
    | some v =>
      if k = 1 then (v, 0, S.step)
      else if k = 2 then (0, 0, S.step.put c.toNat x)
      else if k = 3 then (if v = x then (1, 0, S.step.put c.toNat y) else (0, 0, S.step))
      else (IntKind.u64.wrap (v + x), 0, S.step.put c.toNat (IntKind.u64.wrap (v + x)))
  else (0, 2, S)

theorem OwnF.alloc {o w0 w b S} (h : OwnF o w0 w b S) (ob : Obj) : OwnF o w0 (w.alloc ob) b S := by
  obtain ⟨fp, hA, hn, k⟩ := h
  exact ⟨fp, hA.kept ((Kept.refl [] w).alloc ob) (by simp), hn, k.alloc ob⟩

theorem own_load_no {o w0 w b} {S : Ar} (h : OwnF o w0 w b S) (c : Int) (h0 : -9223372036854775808 ≤ c) (h1 : c < 9223372036854775808) (hn : c < 0 ∨ S.get c.toNat = none) :
    Calls Tryd.prog 22 #[.pointer (some ⟨b, 0, none⟩), .int .i64 c] w fun e w' => e = .returned (.tuple #[.int .u64 0, .int .i64 30]) ∧ w = w' := by
  obtain ⟨fp, hA, _, k⟩ := h
  exact load_arena_no hA c h0 h1 hn
theorem own_store_no {o w0 w b} {S : Ar} (h : OwnF o w0 w b S) (c x : Int) (h0 : -9223372036854775808 ≤ c) (h1 : c < 9223372036854775808) (hn : c < 0 ∨ S.get c.toNat = none) :
    Calls Tryd.prog 53 #[.pointer (some ⟨b, 0, none⟩), .int .i64 c, .int .u64 x] w fun e w' => e = .returned (.int .i64 30) ∧ w = w' := by
  obtain ⟨fp, hA, _, k⟩ := h
  exact store_arena_no hA c x h0 h1 hn
theorem own_cas_no {o w0 w b} {S : Ar} (h : OwnF o w0 w b S) (c old x : Int) (h0 : -9223372036854775808 ≤ c) (h1 : c < 9223372036854775808) (hn : c < 0 ∨ S.get c.toNat = none) :
    Calls Tryd.prog 54 #[.pointer (some ⟨b, 0, none⟩), .int .i64 c, .int .u64 old, .int .u64 x] w fun e w' => e = .returned (.tuple #[.bool false, .int .i64 30]) ∧ w = w' := by
  obtain ⟨fp, hA, _, k⟩ := h
  exact cas_arena_no hA c old x h0 h1 hn
theorem own_add_no {o w0 w b} {S : Ar} (h : OwnF o w0 w b S) (c x : Int) (h0 : -9223372036854775808 ≤ c) (h1 : c < 9223372036854775808) (hn : c < 0 ∨ S.get c.toNat = none) :
    Calls Tryd.prog 52 #[.pointer (some ⟨b, 0, none⟩), .int .i64 c, .int .u64 x] w fun e w' => e = .returned (.tuple #[.int .u64 0, .int .i64 30]) ∧ w = w' := by
  obtain ⟨fp, hA, _, k⟩ := h
  exact add_arena_no hA c x h0 h1 hn

set_option maxHeartbeats 1000000 in
set_option maxRecDepth 100000 in
theorem do_load {o w0 w b} {S : Ar} (h : OwnF o w0 w b S) (c : Nat) (v x y : Int) (hb : S.get c = some v) :
    Calls Tryd.prog 51 #[.pointer (some ⟨b, 0, none⟩), .agg #[.int .i64 1, .int .i64 c, .int .u64 x, .int .u64 y]] w fun e w' => e = .returned (.tuple #[.int .u64 v, .int .i64 0]) ∧ OwnF o w0 w' b S.step := by
  have HO := Lib.hid h
  have HH := Lib.hid hb
  clear h
  go_enter Tryd.func51, Tryd.ntmps51
  go_wp2_with fail
  refine (own_load (HO.out.alloc _) c v HH.out).mono ?_
  rintro e w1 ⟨rfl, hO1⟩
  have HO1 := Lib.hid hO1
  clear hO1
  go_wp2_with fail
  go_ret2
  exact ⟨rfl, HO1.out⟩

set_option maxHeartbeats 1000000 in
set_option maxRecDepth 100000 in
theorem do_load_no {o w0 w b} {S : Ar} (h : OwnF o w0 w b S) (c x y : Int) (hb : (-9223372036854775808 ≤ c ∧ c < 9223372036854775808) ∧ (c < 0 ∨ S.get c.toNat = none)) :
    Calls Tryd.prog 51 #[.pointer (some ⟨b, 0, none⟩), .agg #[.int .i64 1, .int .i64 c, .int .u64 x, .int .u64 y]] w fun e w' => e = .returned (.tuple #[.int .u64 0, .int .i64 30]) ∧ OwnF o w0 w' b S := by
  have HO := Lib.hid h
  have HH := Lib.hid hb
  clear h
  go_enter Tryd.func51, Tryd.ntmps51
  go_wp2_with fail
  refine (own_load_no (HO.out.alloc _) c HH.out.1.1 HH.out.1.2 HH.out.2).mono ?_
  rintro e w1 ⟨rfl, rfl⟩
  go_wp2_with fail
  go_ret2
  exact ⟨rfl, (HO.out.alloc _)⟩

set_option maxHeartbeats 1000000 in
set_option maxRecDepth 100000 in
theorem do_store {o w0 w b} {S : Ar} (h : OwnF o w0 w b S) (c : Nat) (v x y : Int) (hb : S.get c = some v) :
    Calls Tryd.prog 51 #[.pointer (some ⟨b, 0, none⟩), .agg #[.int .i64 2, .int .i64 c, .int .u64 x, .int .u64 y]] w fun e w' => e = .returned (.tuple #[.int .u64 0, .int .i64 0]) ∧ OwnF o w0 w' b (S.step.put c x) := by
  have HO := Lib.hid h
  have HH := Lib.hid hb
  clear h
  go_enter Tryd.func51, Tryd.ntmps51
  go_wp2_with fail
  refine (own_store (HO.out.alloc _) c v x HH.out).mono ?_
  rintro e w1 ⟨rfl, hO1⟩
  have HO1 := Lib.hid hO1
  clear hO1
  go_wp2_with fail
  go_ret2
  exact ⟨rfl, HO1.out⟩

set_option maxHeartbeats 1000000 in
set_option maxRecDepth 100000 in
theorem do_store_no {o w0 w b} {S : Ar} (h : OwnF o w0 w b S) (c x y : Int) (hb : (-9223372036854775808 ≤ c ∧ c < 9223372036854775808) ∧ (c < 0 ∨ S.get c.toNat = none)) :
    Calls Tryd.prog 51 #[.pointer (some ⟨b, 0, none⟩), .agg #[.int .i64 2, .int .i64 c, .int .u64 x, .int .u64 y]] w fun e w' => e = .returned (.tuple #[.int .u64 0, .int .i64 30]) ∧ OwnF o w0 w' b S := by
  have HO := Lib.hid h
  have HH := Lib.hid hb
  clear h
  go_enter Tryd.func51, Tryd.ntmps51
  go_wp2_with fail
  refine (own_store_no (HO.out.alloc _) c x HH.out.1.1 HH.out.1.2 HH.out.2).mono ?_
  rintro e w1 ⟨rfl, rfl⟩
  go_wp2_with fail
  go_ret2
  exact ⟨rfl, (HO.out.alloc _)⟩

set_option maxHeartbeats 1000000 in
set_option maxRecDepth 100000 in
theorem do_cas {o w0 w b} {S : Ar} (h : OwnF o w0 w b S) (c : Nat) (x y : Int) (hb : S.get c = some x) :
    Calls Tryd.prog 51 #[.pointer (some ⟨b, 0, none⟩), .agg #[.int .i64 3, .int .i64 c, .int .u64 x, .int .u64 y]] w fun e w' => e = .returned (.tuple #[.int .u64 1, .int .i64 0]) ∧ OwnF o w0 w' b (S.step.put c y) := by
  have HO := Lib.hid h
  have HH := Lib.hid hb
  clear h
  go_enter Tryd.func51, Tryd.ntmps51
  go_wp2_with fail
  refine (own_cas (HO.out.alloc _) c x y HH.out).mono ?_
  rintro e w1 ⟨rfl, hO1⟩
  have HO1 := Lib.hid hO1
  clear hO1
  go_wp2_with fail
  go_ret2
  exact ⟨rfl, HO1.out⟩

set_option maxHeartbeats 1000000 in
set_option maxRecDepth 100000 in
theorem do_cas_not {o w0 w b} {S : Ar} (h : OwnF o w0 w b S) (c : Nat) (v x y : Int) (hb : S.get c = some v ∧ v ≠ x) :
    Calls Tryd.prog 51 #[.pointer (some ⟨b, 0, none⟩), .agg #[.int .i64 3, .int .i64 c, .int .u64 x, .int .u64 y]] w fun e w' => e = .returned (.tuple #[.int .u64 0, .int .i64 0]) ∧ OwnF o w0 w' b S.step := by
  have HO := Lib.hid h
  have HH := Lib.hid hb
  clear h
  go_enter Tryd.func51, Tryd.ntmps51
  go_wp2_with fail
  refine (own_cas_not (HO.out.alloc _) c v x y HH.out.1 HH.out.2).mono ?_
  rintro e w1 ⟨rfl, hO1⟩
  have HO1 := Lib.hid hO1
  clear hO1
  go_wp2_with fail
  go_ret2
  exact ⟨rfl, HO1.out⟩

set_option maxHeartbeats 1000000 in
set_option maxRecDepth 100000 in
theorem do_cas_no {o w0 w b} {S : Ar} (h : OwnF o w0 w b S) (c x y : Int) (hb : (-9223372036854775808 ≤ c ∧ c < 9223372036854775808) ∧ (c < 0 ∨ S.get c.toNat = none)) :
    Calls Tryd.prog 51 #[.pointer (some ⟨b, 0, none⟩), .agg #[.int .i64 3, .int .i64 c, .int .u64 x, .int .u64 y]] w fun e w' => e = .returned (.tuple #[.int .u64 0, .int .i64 30]) ∧ OwnF o w0 w' b S := by
  have HO := Lib.hid h
  have HH := Lib.hid hb
  clear h
  go_enter Tryd.func51, Tryd.ntmps51
  go_wp2_with fail
  refine (own_cas_no (HO.out.alloc _) c x y HH.out.1.1 HH.out.1.2 HH.out.2).mono ?_
  rintro e w1 ⟨rfl, rfl⟩
  go_wp2_with fail
  go_ret2
  exact ⟨rfl, (HO.out.alloc _)⟩

set_option maxHeartbeats 1000000 in
set_option maxRecDepth 100000 in
theorem do_add {o w0 w b} {S : Ar} (h : OwnF o w0 w b S) (c : Nat) (v x y : Int) (hb : S.get c = some v) :
    Calls Tryd.prog 51 #[.pointer (some ⟨b, 0, none⟩), .agg #[.int .i64 4, .int .i64 c, .int .u64 x, .int .u64 y]] w fun e w' => e = .returned (.tuple #[.int .u64 (IntKind.u64.wrap (v + x)), .int .i64 0]) ∧ OwnF o w0 w' b (S.step.put c (IntKind.u64.wrap (v + x))) := by
  have HO := Lib.hid h
  have HH := Lib.hid hb
  clear h
  go_enter Tryd.func51, Tryd.ntmps51
  go_wp2_with fail
  refine (own_add (HO.out.alloc _) c v x HH.out).mono ?_
  rintro e w1 ⟨rfl, hO1⟩
  have HO1 := Lib.hid hO1
  clear hO1
  go_wp2_with fail
  go_ret2
  exact ⟨rfl, HO1.out⟩

set_option maxHeartbeats 1000000 in
set_option maxRecDepth 100000 in
theorem do_add_no {o w0 w b} {S : Ar} (h : OwnF o w0 w b S) (c x y : Int) (hb : (-9223372036854775808 ≤ c ∧ c < 9223372036854775808) ∧ (c < 0 ∨ S.get c.toNat = none)) :
    Calls Tryd.prog 51 #[.pointer (some ⟨b, 0, none⟩), .agg #[.int .i64 4, .int .i64 c, .int .u64 x, .int .u64 y]] w fun e w' => e = .returned (.tuple #[.int .u64 0, .int .i64 30]) ∧ OwnF o w0 w' b S := by
  have HO := Lib.hid h
  have HH := Lib.hid hb
  clear h
  go_enter Tryd.func51, Tryd.ntmps51
  go_wp2_with fail
  refine (own_add_no (HO.out.alloc _) c x HH.out.1.1 HH.out.1.2 HH.out.2).mono ?_
  rintro e w1 ⟨rfl, rfl⟩
  go_wp2_with fail
  go_ret2
  exact ⟨rfl, (HO.out.alloc _)⟩

set_option maxHeartbeats 1000000 in
set_option maxRecDepth 100000 in
theorem do_none {o w0 w b} {S : Ar} (h : OwnF o w0 w b S) (k c x y : Int) (h1 : (k == 1) = false) (h2 : (k == 2) = false) (h3 : (k == 3) = false) (h4 : (k == 4) = false) :
    Calls Tryd.prog 51 #[.pointer (some ⟨b, 0, none⟩), .agg #[.int .i64 k, .int .i64 c, .int .u64 x, .int .u64 y]] w fun e w' => e = .returned (.tuple #[.int .u64 0, .int .i64 2]) ∧ OwnF o w0 w' b S := by
  have HO := Lib.hid h
  clear h
  go_enter Tryd.func51, Tryd.ntmps51
  go_wp2_with fail
  go_ret2
  exact ⟨rfl, HO.out.alloc _⟩

/-- Do, at every operation. -/
theorem own_do {o w0 w b} {S : Ar} (h : OwnF o w0 w b S) (k c x y : Int) (h0 : -9223372036854775808 ≤ c) (h1 : c < 9223372036854775808) :
    Calls Tryd.prog 51 #[.pointer (some ⟨b, 0, none⟩), .agg #[.int .i64 k, .int .i64 c, .int .u64 x, .int .u64 y]] w fun e w' => e = .returned (.tuple #[.int .u64 (doS S k c x y).1, .int .i64 (doS S k c x y).2.1]) ∧ OwnF o w0 w' b (doS S k c x y).2.2 := by
  by_cases hk : k = 1 ∨ k = 2 ∨ k = 3 ∨ k = 4
  · by_cases hc : c < 0 ∨ S.get c.toNat = none
    · have e : doS S k c x y = (0, 30, S) := by
        unfold doS
        rw [if_pos hk]
        rcases hc with hc | hc
        · rw [if_neg (by omega)]
        · rw [hc]; split <;> simp_all
      rw [e]
      rcases hk with rfl | rfl | rfl | rfl
      · exact do_load_no h c x y ⟨⟨h0, h1⟩, hc⟩
      · exact do_store_no h c x y ⟨⟨h0, h1⟩, hc⟩
      · exact do_cas_no h c x y ⟨⟨h0, h1⟩, hc⟩
      · exact do_add_no h c x y ⟨⟨h0, h1⟩, hc⟩
    · obtain ⟨d, rfl⟩ := Int.eq_ofNat_of_zero_le (a := c) (by omega)
      obtain ⟨v, hv⟩ : ∃ v, S.get d = some v := by
        cases hg : S.get d with
        | none => exact absurd (Or.inr (by simpa using hg)) hc
        | some v => exact ⟨v, rfl⟩
      have e0 : (if 0 ≤ (d : Int) then S.get (d : Int).toNat else none) = some v := by simpa using hv
      have ed : ((d : Int)).toNat = d := by simp
      rcases hk with rfl | rfl | rfl | rfl
      · have e : doS S 1 d x y = (v, 0, S.step) := by unfold doS; rw [if_pos (by omega), e0]; rfl
        rw [e]
        exact do_load h d v x y hv
      · have e : doS S 2 d x y = (0, 0, S.step.put d x) := by unfold doS; rw [if_pos (by omega), e0]; rfl
        rw [e]
        exact do_store h d v x y hv
      · by_cases hx : v = x
        · subst hx
          have e : doS S 3 d v y = (1, 0, S.step.put d y) := by unfold doS; rw [if_pos (by omega), e0]; simp
          rw [e]
          exact do_cas h d v y hv
        · have e : doS S 3 d x y = (0, 0, S.step) := by unfold doS; rw [if_pos (by omega), e0]; simp [hx]
          rw [e]
          exact do_cas_not h d v x y ⟨hv, hx⟩
      · have e : doS S 4 d x y = (IntKind.u64.wrap (v + x), 0, S.step.put d (IntKind.u64.wrap (v + x))) := by unfold doS; rw [if_pos (by omega), e0]; rfl
        rw [e]
        exact do_add h d v x y hv
  · have e : doS S k c x y = (0, 2, S) := by unfold doS; rw [if_neg hk]
    rw [e]
    exact do_none h k c x y (by simp; omega) (by simp; omega) (by simp; omega) (by simp; omega)
end Go.Proofs.YtfipoadgfebibaaDoor
