/- Turns of four workers: what is kept, and that all come to their ends. Nothing is claimed of a program here. -/
import Derived.Test.YtpckpgdkfimapaaDoorSkipTogS
namespace Go.Proofs.YtpckpgdkfimapaaDoor
open Go Go.RowKit
set_option linter.unusedVariables false

variable {a : Nat → SAsk} {N : Nat} {t : Int} {g g' : Tg} {w k : Nat}

/-- A worker has nothing to do any more. -/
def Idle (a : Nat → SAsk) (N : Nat) (g : Tg) (w : Nat) : Prop := g.now w = none ∧ unb a N w (g.pos w) = 0

theorem TgI.wait (h : TgI a N t g) : TgI a N (t + 1) g :=
  ⟨h.skp, h.size, by have := h.time; omega, h.used, h.nN, h.asks, fun k hk => by
    obtain ⟨b1, b2, b3, b4, b5, b6, b7, b8, b9⟩ := h.key k hk
    exact ⟨b1, b2, b3, b4, b5, by omega, by omega, b8, b9⟩, h.go, h.done, h.now, h.apart, h.owns, h.inj, h.pos, h.past, h.who, h.met, h.seen, h.noown⟩

/-- A worker's place goes on over asks that are not its own. -/
def Tg.skip (g : Tg) (w p : Nat) : Tg := { g with pos := updA g.pos w p }
theorem skip_skip (g : Tg) (w p r : Nat) : (g.skip w p).skip w r = g.skip w r := by
  unfold Tg.skip
  have : updA (updA g.pos w p) w r = updA g.pos w r := funext fun j => by unfold updA; split <;> rfl
  show { g with pos := updA (updA g.pos w p) w r } = _
  rw [this]
theorem skip_same (g : Tg) (w : Nat) : g.skip w (g.pos w) = g := by
  unfold Tg.skip
  rw [updA_id]

theorem TgI.skip (h : TgI a N t g) {p : Nat} (hw : w < 4) (h1 : g.pos w ≤ p) (h2 : p ≤ N) (h3 : unb a N w p = unb a N w (g.pos w)) : TgI a N t (g.skip w p) := by
  have e : (fun v => unb a N v ((g.skip w p).pos v)) = fun v => unb a N v (g.pos v) := funext fun v => by
    by_cases e : v = w
    · subst e
      rw [show (g.skip v p).pos v = p from updA_at _ _ _]; exact h3
    · rw [show (g.skip w p).pos v = g.pos v from updA_ne _ _ e]
  refine ⟨h.skp, h.size, h.time, h.used, h.nN, ?_, h.key, h.go, h.done, h.now, h.apart, h.owns, h.inj, fun v hv => ?_, fun k hk => ?_, h.who, h.met, h.seen, h.noown⟩
  · rw [e]; exact h.asks
  · by_cases e : v = w
    · subst e
      rw [show (g.skip v p).pos v = p from updA_at _ _ _]; exact h2
    · rw [show (g.skip w p).pos v = g.pos v from updA_ne _ _ e]; exact h.pos v hv
  · have := h.past k hk
    show g.x k < (g.skip w p).pos (wkN (a (g.x k)).wk)
    by_cases e : wkN (a (g.x k)).wk = w
    · rw [e] at this ⊢
      rw [show (g.skip w p).pos w = p from updA_at _ _ _]; omega
    · rw [show (g.skip w p).pos _ = g.pos _ from updA_ne _ _ e]; exact this

theorem lam_skip {p : Nat} (h3 : unb a N w p = unb a N w (g.pos w)) (v : Nat) : lam a N (g.skip w p) v = lam a N g v := by
  unfold lam
  by_cases e : v = w
  · subst e
    rw [show (g.skip v p).pos v = p from updA_at _ _ _, h3]; rfl
  · rw [show (g.skip w p).pos v = g.pos v from updA_ne _ _ e]; rfl

/-- A turn of worker w. -/
structure Turned (a : Nat → SAsk) (N : Nat) (w : Nat) (g g' : Tg) : Prop where
  same : ∀ v, v < 4 → v ≠ w → g'.now v = g.now v ∧ g'.pos v = g.pos v
  le : ∀ v, v < 4 → lam a N g' v ≤ lam a N g v
  lt : (lam a N g' w < lam a N g w ∧ ¬ Idle a N g w) ∨ Idle a N g' w

theorem Turned.ofStep (h : Stepped a N t w k g g') (hnow : g.now w = some k) : Turned a N w g g' :=
  ⟨fun v hv hvw => ⟨by
    rcases h.en with ⟨_, _, e⟩ | ⟨_, _, e⟩
    · rw [e]
    · rw [e]; exact updA_ne _ _ hvw, by rw [h.pos]⟩, h.lam.1, .inl ⟨h.lam.2, fun h9 => by rw [h9.1] at hnow; cases hnow⟩⟩
theorem Turned.ofBegin {p : Nat} (h : TgI a N t g) (hw : w < 4) (hnow : g.now w = none) (h1 : g.pos w ≤ p) (h2 : p < N) (h3 : unb a N w p = unb a N w (g.pos w)) (hk : wkN (a p).wk = w) : TgI a N (t + 1) ((g.skip w p).begin a t w) ∧ Turned a N w g ((g.skip w p).begin a t w) := by
  have hs := h.skip hw h1 (by omega) h3
  have ep : (g.skip w p).pos w = p := updA_at _ _ _
  have hb := hs.begin hw hnow (by rw [ep]; exact h2) (by rw [ep]; exact hk)
  obtain ⟨l1, l2⟩ := hs.begun_lam hw hnow (by rw [ep]; exact h2) (by rw [ep]; exact hk)
  refine ⟨hb, fun v hv hvw => ⟨updA_ne _ _ hvw, ?_⟩, fun v hv => ?_, .inl ?_⟩
  · show updA (updA g.pos w p) w _ v = _
    rw [updA_ne _ _ hvw, updA_ne _ _ hvw]
  · have := l1 v hv
    rw [lam_skip h3] at this; exact this
  · rw [lam_skip h3] at l2
    refine ⟨l2, fun h9 => ?_⟩
    have := unb_take a N w p h2 hk
    have := h9.2
    omega
theorem Turned.ofIdle (h : TgI a N t g) (hw : w < 4) (hnow : g.now w = none) (h3 : unb a N w N = unb a N w (g.pos w)) : TgI a N (t + 1) (g.skip w N) ∧ Turned a N w g (g.skip w N) := by
  have hs := h.skip hw (h.pos w hw) (Nat.le_refl _) h3
  refine ⟨hs.wait, fun v hv hvw => ⟨rfl, updA_ne _ _ hvw⟩, fun v hv => by rw [lam_skip h3]; exact Nat.le_refl _, .inr ⟨hnow, ?_⟩⟩
  rw [show (g.skip w N).pos w = N from updA_at _ _ _]
  exact unb_end _ _ _ _ (Nat.le_refl _)

/-- How many turns of worker v were there ahead of time i. -/
def cnt4 (i v : Nat) : Nat := (i + 3 - v) / 4
/-- Each worker has nothing to do, or is nearer to its end by its turns since time P. -/
def Meas (a : Nat → SAsk) (N P L i : Nat) (g : Tg) : Prop := ∀ v, v < 4 → Idle a N g v ∨ (i < P ∧ lam a N g v ≤ L) ∨ (P ≤ i ∧ lam a N g v + cnt4 i v ≤ L + cnt4 P v)

theorem Meas.turn {P L i : Nat} (h : Meas a N P L i g) (ht : Turned a N w g g') (hw : P ≤ i → w = i % 4) : Meas a N P L (i + 1) g' := by
  intro v hv
  have hle := ht.le v hv
  by_cases e : v = w
  · subst e
    rcases ht.lt with ⟨h1, h0⟩ | h1
    · right
      rcases h v hv with h2 | ⟨h2, h3⟩ | ⟨h2, h3⟩
      · exact absurd h2 h0
      · by_cases hi : i + 1 < P
        · exact .inl ⟨hi, by omega⟩
        · refine .inr ⟨by omega, ?_⟩
          rw [show i + 1 = P by omega]; omega
      · refine .inr ⟨by omega, ?_⟩
        have := hw h2
        unfold cnt4 at *
        omega
    · exact .inl h1
  · obtain ⟨e1, e2⟩ := ht.same v hv e
    rcases h v hv with ⟨h2, h3⟩ | ⟨h2, h3⟩ | ⟨h2, h3⟩
    · exact .inl ⟨by rw [e1]; exact h2, by rw [e2]; exact h3⟩
    · right
      by_cases hi : i + 1 < P
      · exact .inl ⟨hi, by omega⟩
      · refine .inr ⟨by omega, ?_⟩
        rw [show i + 1 = P by omega]; omega
    · refine .inr (.inr ⟨by omega, ?_⟩)
      have := hw h2
      unfold cnt4 at *
      omega

theorem Meas.last {P L M : Nat} (h : Meas a N P L (P + 4 * M) g) (hM : L < M ∨ (L = 0 ∧ M = 0 ∧ ∀ v, v < 4 → Idle a N g v)) (v : Nat) (hv : v < 4) : Idle a N g v := by
  rcases hM with hM | ⟨_, _, h0⟩
  · rcases h v hv with h1 | ⟨h1, _⟩ | ⟨_, h2⟩
    · exact h1
    · omega
    · unfold cnt4 at h2
      omega
  · exact h0 v hv
theorem TgI.allBegun (h : TgI a N t g) (hi : ∀ v, v < 4 → Idle a N g v) : g.n = N ∧ (∀ k, k < g.n → 0 ≤ g.en k) := by
  refine ⟨?_, fun k hk => ?_⟩
  · have := h.asks
    unfold sum4 at this
    dsimp only at this
    rw [(hi 0 (by omega)).2, (hi 1 (by omega)).2, (hi 2 (by omega)).2, (hi 3 (by omega)).2] at this
    omega
  · rcases Int.lt_or_le (g.en k) 0 with h1 | h1
    · have := (h.go k hk h1).2.1
      rw [(hi _ (wkN_lt _)).1] at this
      cases this
    · exact h1

/-- Ahead of all. -/
def Tg.none (T : ASk) : Tg := ⟨T, fun _ => [], 0, fun _ => .new 0 default default 0 0, fun _ => [], fun _ => 0, fun _ => 0, fun _ => 0, fun _ => 0, fun _ => .none⟩
theorem fresh_skp (ab size : Nat) (st : Int) : Skp (ASk.fresh ab size st) (fun _ => []) := by
  have e0 : (ASk.fresh ab size st).E 0 = ⟨⟨#[]⟩, ⟨#[]⟩, 0, 8, fun _ => 0, false⟩ := ASk.add_new (ASk.nil ab size st) _ _ _ _
  have en : (ASk.fresh ab size st).nN = 1 := rfl
  refine ⟨by rw [en]; exact Nat.le_refl _, by rw [e0]; exact ⟨rfl, rfl, by show 0 ≤ 16; omega⟩, fun i hi => ?_, fun i h1 hi => by rw [en] at hi; omega, fun l _ => ?_, fun _ _ v hv => absurd hv List.not_mem_nil, fun _ _ => .nil, fun _ _ v hv => absurd hv List.not_mem_nil⟩
  · rw [en] at hi
    obtain rfl : i = 0 := by omega
    rw [e0]; exact Nat.le_refl _
  · show ((ASk.fresh ab size st).E 0).nx l = 0
    rw [e0]
theorem fresh_used (ab size : Nat) (st : Int) : (ASk.fresh ab size st).used = 8 := by
  show (ASk.add _ _ _ _ _).used = 8
  rw [ASk.used_add]; rfl
theorem TgI.none (a : Nat → SAsk) (N ab : Nat) (st : Int) : TgI a N 0 (.none (.fresh ab 600 st)) := by
  have no : ∀ {k : Nat}, k < (Tg.none (.fresh ab 600 st)).n → False := fun h => Nat.not_lt_zero _ h
  refine ⟨fresh_skp _ _ _, rfl, Int.le_refl _, fresh_used _ _ _, rfl, ?_, fun _ hk => (no hk).elim, fun _ hk => (no hk).elim, fun _ hk => (no hk).elim, fun _ _ _ h => (by cases h), fun _ _ hk => (no hk).elim, fun _ hk => (no hk).elim, fun _ _ hk => (no hk).elim, fun _ _ => Nat.zero_le _, fun _ hk => (no hk).elim, fun v hv => absurd hv List.not_mem_nil, fun _ hk => (no hk).elim, fun _ _ hk => (no hk).elim, fun _ hk => (no hk).elim⟩
  show 0 + sum4 (fun w => unb a N w 0) = N
  rw [unb_four]; omega
theorem lam_none (a : Nat → SAsk) (N ab : Nat) (st : Int) (w : Nat) (hw : w < 4) : lam a N (.none (.fresh ab 600 st)) w ≤ N * (N + 25) + 8 * N * (N + 11) := by
  have h := unb_four a N
  have h1 : unb a N w 0 ≤ N := by
    unfold sum4 at h
    dsimp only at h
    rcases (by omega : w = 0 ∨ w = 1 ∨ w = 2 ∨ w = 3) with rfl | rfl | rfl | rfl <;> omega
  have h2 := Nat.mul_le_mul_right (N + 25) h1
  have c0 : room (Tg.none (.fresh ab 600 st)).C N = 8 * N := by
    show 0 + (N - 0) + (N - 0) + (N - 0) + (N - 0) + (N - 0) + (N - 0) + (N - 0) + (N - 0) = 8 * N
    omega
  show unb a N w 0 * (N + 25) + room (Tg.none (.fresh ab 600 st)).C N * (N + 11) + 0 ≤ _
  rw [c0]
  omega
theorem turns_enough (N : Nat) : N * (N + 25) + 8 * N * (N + 11) < (N + 1) * (8 * N + 1) * (N + 32) := by
  have h1 : N * (N + 25) ≤ (N + 1) * (8 * N + 1) * 25 + N * N := by
    have : N * 25 ≤ (N + 1) * (8 * N + 1) * 25 := Nat.mul_le_mul_right 25 (by
      have : (N + 1) * 1 ≤ (N + 1) * (8 * N + 1) := Nat.mul_le_mul_left _ (by omega)
      omega)
    rw [Nat.mul_add]; omega
  have e : (N + 1) * (8 * N + 1) = 8 * (N * N) + 9 * N + 1 := by
    rw [Nat.add_mul, Nat.mul_add, ← Nat.mul_assoc, Nat.mul_comm N 8, Nat.mul_assoc]; omega
  have e2 : 8 * N * (N + 11) = 8 * (N * N) + 88 * N := by rw [Nat.mul_add, Nat.mul_assoc]; omega
  have e3 : N * (N + 25) = N * N + 25 * N := by rw [Nat.mul_add]; omega
  have h3 : (8 * (N * N) + 9 * N + 1) * 32 ≤ (8 * (N * N) + 9 * N + 1) * (N + 32) := Nat.mul_le_mul_left _ (by omega)
  rw [e, e2, e3]
  omega
end Go.Proofs.YtpckpgdkfimapaaDoor
