/- The reference's Do and Used, told plainly. -/
import Derived.Test.YtfipoadgfebibaaDoorRefAt
namespace Go.Proofs.YtfipoadgfebibaaDoor
open Go Go.RowKit
set_option linter.unusedVariables false

theorem RfInv.step {S hs ts} (h : RfInv S hs ts) : RfInv S.step hs ts := ⟨h.one, h.max, h.cap, h.get⟩
theorem RfInv.put {S hs ts} (h : RfInv S hs ts) (k : Nat) (x : Int) (hk : k < hs.length) (ht : ts.getD k false = true) : RfInv (S.step.put k x) (hs.set k x) ts := by
  refine ⟨h.one, h.max, by rw [List.length_set]; exact h.cap, fun d => ?_⟩
  show (if d = k then some x else S.get d) = _
  by_cases e : d = k
  · subst e; rw [if_pos rfl, ht]; simp [hk]
  · rw [if_neg e, h.get d]; simp [Ne.symm e]

theorem ref_do {w b fp} {S : Ar} (h : RefAt w b fp S) (k c x y : Int) :
    Calls Tryd.prog 24 #[.pointer (some ⟨b, 0, none⟩), .agg #[.int .i64 k, .int .i64 c, .int .u64 x, .int .u64 y]] w fun e w' => e = .returned (.tuple #[.int .u64 (doS S k c x y).1, .int .i64 (doS S k c x y).2.1]) ∧ RfOp w w' b fp (doS S k c x y).2.2 := by
  obtain ⟨hv, tv, hs, ts, hr, rfl, hi⟩ := h
  have hfew := hr.few
  have hl := hr.len
  have same : ∀ (o : Obj), RfOp w (w.alloc o) b (b :: (rowsOf hv ++ rowsOf tv)) S := fun o =>
    ⟨⟨_, ⟨hv, tv, hs, ts, hr.alloc o, rfl, hi⟩, fun x hx => .inl hx⟩, (Kept.refl _ w).alloc o⟩
  by_cases hk : k = 1 ∨ k = 2 ∨ k = 3 ∨ k = 4
  · have ht := rthere_calls (hr.alloc (.cells #[.int .i64 k, .int .i64 c, .int .u64 x, .int .u64 y] 38)) c
    rw [hi.taken hl c] at ht
    by_cases hc : c < 0 ∨ S.get c.toNat = none
    · have e : doS S k c x y = (0, 30, S) := by
        unfold doS
        rw [if_pos hk]
        rcases hc with hc | hc
        · rw [if_neg (by omega)]
        · rw [hc]; split <;> simp_all
      rw [e]
      have e2 : (decide (0 ≤ c) && (S.get c.toNat).isSome) = false := by
        rcases hc with hc | hc
        · simp; omega
        · simp [hc]
      rw [e2] at ht
      refine (rdo_no w b k c x y (by simp; omega) (by simp; omega) ht).mono ?_
      rintro e w' ⟨rfl, rfl⟩
      exact ⟨rfl, same _⟩
    · obtain ⟨d, rfl⟩ := Int.eq_ofNat_of_zero_le (a := c) (by omega)
      obtain ⟨v, hv'⟩ : ∃ v, S.get d = some v := by
        cases hg : S.get d with
        | none => exact absurd (Or.inr (by simpa using hg)) hc
        | some v => exact ⟨v, rfl⟩
      obtain ⟨hlt, hgv, hgt⟩ := hi.lt hv'
      have e0 : (if 0 ≤ (d : Int) then S.get (d : Int).toNat else none) = some v := by simpa using hv'
      have e2 : (decide (0 ≤ (d : Int)) && (S.get (d : Int).toNat).isSome) = true := by simp [hv']
      rw [e2] at ht
      rcases row_val hr.hrow with ⟨rfl, h0⟩ | ⟨g, cap, rfl, hhp, hhp2, hglt, hhfr, hhcells⟩
      · omega
      have hgb : g ≠ b := fun e => hr.hne (by simp [Value.ownBlock, e])
      have hck := hhcells d (.int .u64 v) (by
        rw [List.getElem?_map, List.getElem?_eq_getElem (by omega)]
        rw [List.getD_eq_getElem?_getD, List.getElem?_eq_getElem (by omega)] at hgv
        simpa using hgv)
      have hbl := hr.blk.lt
      have touch : ∀ (o : Obj) (n : Nat), RfOp w (((w.setCell ⟨b, 3, none⟩ (.int .i64 (wrap64 (S.steps + 1)))).alloc o).drewN n) b (b :: (rowsOf (.slice (some ⟨g, 0, none⟩) hs.length cap) ++ rowsOf tv)) S.step := fun o n =>
        ⟨⟨_, ⟨_, tv, hs, ts, ((hr.putMany _).alloc o).drewN n, rfl, hi.step⟩, fun x hx => .inl hx⟩, (((Kept.refl _ w).set _ (by simp)).alloc o).drewN n⟩
      have lay : ∀ (o : Obj) (n : Nat) (z : Int), RfOp w ((((w.setCell ⟨b, 3, none⟩ (.int .i64 (wrap64 (S.steps + 1)))).alloc o).drewN n).setCell ⟨g, d, none⟩ (.int .u64 z)) b (b :: (rowsOf (.slice (some ⟨g, 0, none⟩) hs.length cap) ++ rowsOf tv)) (S.step.put d z) := fun o n z =>
        ⟨⟨_, ⟨_, tv, hs.set d z, ts, (((hr.putMany _).alloc o).drewN n).putHas d z (by omega), rfl, hi.put d z (by omega) hgt⟩, fun x hx => .inl hx⟩, ((((Kept.refl _ w).set _ (by simp)).alloc o).drewN n).set _ (by simp [rowsOf, Value.ownBlock])⟩
      rcases hk with rfl | rfl | rfl | rfl
      · have e : doS S 1 d x y = (v, 0, S.step) := by unfold doS; rw [if_pos (by omega), e0]; rfl
        rw [e]
        refine (rdo_load w b hs.length cap d g v x y S.steps hfew hbl hglt hgb hr.c1 hr.c3 (by omega) hck (hhfr d) hr.blk.free (ht.mono fun _ _ h => h)).mono ?_
        rintro e w' ⟨rfl, n, rfl⟩
        exact ⟨rfl, touch _ _⟩
      · have e : doS S 2 d x y = (0, 0, S.step.put d x) := by unfold doS; rw [if_pos (by omega), e0]; rfl
        rw [e]
        refine (rdo_store w b hs.length cap d g v x y S.steps hfew hbl hglt hgb hr.c1 hr.c3 (by omega) hck (hhfr d) hr.blk.free ht).mono ?_
        rintro e w' ⟨rfl, n, rfl⟩
        exact ⟨rfl, lay _ _ _⟩
      · by_cases hx : v = x
        · have e : doS S 3 d x y = (1, 0, S.step.put d y) := by unfold doS; rw [if_pos (by omega), e0]; simp [hx]
          rw [e]
          refine (rdo_cas w b hs.length cap d g v x y S.steps hfew hbl hglt hgb hr.c1 hr.c3 (by omega) hck (hhfr d) hr.blk.free (by simpa using hx) (by simpa using hx) ht).mono ?_
          rintro e w' ⟨rfl, n, rfl⟩
          exact ⟨rfl, lay _ _ _⟩
        · have e : doS S 3 d x y = (0, 0, S.step) := by unfold doS; rw [if_pos (by omega), e0]; simp [hx]
          rw [e]
          refine (rdo_cas_not w b hs.length cap d g v x y S.steps hfew hbl hglt hgb hr.c1 hr.c3 (by omega) hck (hhfr d) hr.blk.free (by simpa using hx) (by simpa using hx) ht).mono ?_
          rintro e w' ⟨rfl, n, rfl⟩
          exact ⟨rfl, touch _ _⟩
      · have e : doS S 4 d x y = (IntKind.u64.wrap (v + x), 0, S.step.put d (IntKind.u64.wrap (v + x))) := by unfold doS; rw [if_pos (by omega), e0]; rfl
        rw [e]
        refine (rdo_add w b hs.length cap d g v x y S.steps hfew hbl hglt hgb hr.c1 hr.c3 (by omega) hck (hhfr d) hr.blk.free ht).mono ?_
        rintro e w' ⟨rfl, n, rfl⟩
        exact ⟨rfl, lay _ _ _⟩
  · have e : doS S k c x y = (0, 2, S) := by unfold doS; rw [if_neg hk]
    rw [e]
    refine (rdo_kind w b k c x y (by omega)).mono ?_
    rintro e w' ⟨rfl, rfl⟩
    exact ⟨rfl, same _⟩

/-- How many of the first i are taken. -/
def trues (ts : List Bool) : Nat → Nat
  | 0 => 0
  | i + 1 => trues ts i + (if ts.getD i false then 1 else 0)

theorem trues_le (ts : List Bool) (i : Nat) : trues ts i ≤ i := by
  induction i with
  | zero => exact Nat.le_refl _
  | succ i ih => unfold trues; split <;> omega

theorem trues_cnt {S : Ar} {hs : List Int} {ts : List Bool} (hi : RfInv S hs ts) (i : Nat) : trues ts i = cnt S.get i := by
  induction i with
  | zero => rfl
  | succ i ih =>
    unfold trues cnt
    rw [ih, hi.get i]
    cases ts.getD i false <;> rfl

end Go.Proofs.YtfipoadgfebibaaDoor
