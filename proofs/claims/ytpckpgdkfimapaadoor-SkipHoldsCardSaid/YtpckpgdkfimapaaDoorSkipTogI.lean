/- What is kept of operations of four workers over one list, told plainly; an operation is begun. Nothing is claimed of a program here. -/
import Derived.Test.YtpckpgdkfimapaaDoorSkipTog
namespace Go.Proofs.YtpckpgdkfimapaaDoor
open Go Go.RowKit
set_option linter.unusedVariables false

/-- Operations under way: the list, its chains; of each operation its state, what was in at its beginning, its ask, its times; of each worker the next ask and the operation under way. -/
structure Tg where
  T : ASk
  C : Nat → List Nat
  n : Nat
  q : Nat → ASop
  D : Nat → List Nat
  x : Nat → Nat
  bg : Nat → Int
  en : Nat → Int
  pos : Nat → Nat
  now : Nat → Option Nat

/-- Operation k is over, and has a key that is in. -/
def Tg.here (g : Tg) (k : Nat) : Prop := 0 ≤ g.en k ∧ (g.q k).code = 0 ∧ ((g.q k).kind = 0 ∨ (g.q k).had = true)
def sumL (f : Nat → Nat) : Nat → Nat
  | 0 => 0
  | n + 1 => sumL f n + f n
theorem sumL_congr {f h : Nat → Nat} : ∀ {n : Nat}, (∀ k, k < n → f k = h k) → sumL f n = sumL h n
  | 0, _ => rfl
  | n + 1, e => by
    show sumL f n + f n = sumL h n + h n
    rw [sumL_congr fun k hk => e k (by omega), e n (by omega)]
theorem sumL_one {f h : Nat → Nat} {k : Nat} : ∀ {n : Nat}, k < n → (∀ j, j < n → j ≠ k → h j = f j) → sumL h n + f k = sumL f n + h k
  | 0, hk, _ => by omega
  | n + 1, hk, e => by
    show sumL h n + h n + f k = sumL f n + f n + h k
    by_cases ek : k = n
    · subst ek
      rw [sumL_congr fun j hj => e j (by omega) (by omega)]; omega
    · have := sumL_one (n := n) (by omega) fun j hj => e j (by omega)
      rw [e n (by omega) (by omega)]; omega
theorem sumL_le {f : Nat → Nat} {c : Nat} : ∀ {n : Nat}, (∀ k, k < n → f k ≤ c) → sumL f n ≤ n * c
  | 0, _ => Nat.zero_le _
  | n + 1, e => by
    show sumL f n + f n ≤ (n + 1) * c
    have h1 := sumL_le (n := n) fun k hk => e k (by omega)
    have h2 := e n (by omega)
    rw [Nat.add_mul]; omega

structure TgI (a : Nat → SAsk) (N : Nat) (t : Int) (g : Tg) : Prop where
  skp : Skp g.T g.C
  size : g.T.size = 600
  time : 0 ≤ t
  used : g.T.used = 8 + sumL (fun k => useQ (g.q k)) g.n
  nN : g.T.nN = 1 + sumL (fun k => own01 (g.q k)) g.n
  asks : g.n + sum4 (fun w => unb a N w (g.pos w)) = N
  key : ∀ k, k < g.n → g.x k < N ∧ (g.q k).key = (a (g.x k)).key ∧ (g.q k).kind = (a (g.x k)).kd ∧ ((a (g.x k)).kd = 0 → (g.q k).height = hgt (a (g.x k)).height) ∧ 0 ≤ g.bg k ∧ g.bg k < t ∧ g.en k < t ∧ (0 ≤ g.en k → g.bg k < g.en k) ∧ (g.q k).height ≤ 8
  go : ∀ k, k < g.n → g.en k < 0 → g.en k = -1 ∧ g.now (wkN (a (g.x k)).wk) = some k ∧ ((a (g.x k)).kd = 0 → (g.q k).ref = (a (g.x k)).ref) ∧ OpI g.T g.C (g.q k) (g.D k)
  done : ∀ k, k < g.n → 0 ≤ g.en k → Said g.T g.C (g.q k) (a (g.x k)).ref (g.D k) ∧ ∀ u ∈ g.D k, u ∈ g.C 0
  now : ∀ w, w < 4 → ∀ k, g.now w = some k → k < g.n ∧ wkN (a (g.x k)).wk = w ∧ g.en k < 0
  apart : ∀ k l, k < g.n → l < g.n → k ≠ l → (g.q k).own = 0 ∨ (g.q k).own ≠ (g.q l).own
  owns : ∀ k, k < g.n → 0 ≤ (g.q k).own ∧ (g.q k).own < g.T.nN
  inj : ∀ k l, k < g.n → l < g.n → g.x k = g.x l → k = l
  pos : ∀ w, w < 4 → g.pos w ≤ N
  past : ∀ k, k < g.n → g.x k < g.pos (wkN (a (g.x k)).wk)
  who : ∀ v ∈ g.C 0, ∃ k, k < g.n ∧ (g.q k).own = (v : Int) ∧ (g.q k).had = false ∧ (a (g.x k)).kd = 0 ∧ ky g.T v = (a (g.x k)).key ∧ (g.T.E v).ref = (a (g.x k)).ref
  met : ∀ k, k < g.n → 0 ≤ g.en k → (g.q k).had = true → ∃ l v, l < g.n ∧ v ∈ g.C 0 ∧ (g.q l).own = (v : Int) ∧ ky g.T v = (g.q k).found ∧ g.bg l ≤ g.en k
  seen : ∀ k l, k < g.n → l < g.n → g.here k → g.en k < g.bg l → ∃ u ∈ g.D l, ky g.T u = (g.q k).found
  noown : ∀ k, k < g.n → (g.q k).kind ≠ 0 → (g.q k).own = 0

def updA {α : Type} (f : Nat → α) (i : Nat) (x : α) : Nat → α := fun j => if j = i then x else f j
theorem updA_at {α : Type} (f : Nat → α) (i : Nat) (x : α) : updA f i x i = x := if_pos rfl
theorem updA_ne {α : Type} (f : Nat → α) {i j : Nat} (x : α) (h : j ≠ i) : updA f i x j = f j := if_neg h
theorem updA_id {α : Type} (f : Nat → α) (i : Nat) : updA f i (f i) = f := funext fun j => by
  unfold updA
  split
  · rename_i h; rw [h]
  · rfl

/-- Worker w begins its next ask. -/
def Tg.begin (a : Nat → SAsk) (t : Int) (w : Nat) (g : Tg) : Tg :=
  { g with n := g.n + 1, q := updA g.q g.n (a (g.pos w)).op, D := updA g.D g.n (g.C 0), x := updA g.x g.n (g.pos w), bg := updA g.bg g.n t, en := updA g.en g.n (-1),
           pos := updA g.pos w (g.pos w + 1), now := updA g.now w (some g.n) }

theorem sum4_one {f h : Nat → Nat} {w : Nat} (hw : w < 4) (e : ∀ v, v < 4 → v ≠ w → h v = f v) : sum4 h + f w = sum4 f + h w := by
  unfold sum4
  rcases (by omega : w = 0 ∨ w = 1 ∨ w = 2 ∨ w = 3) with rfl | rfl | rfl | rfl
  · rw [e 1 (by omega) (by omega), e 2 (by omega) (by omega), e 3 (by omega) (by omega)]; omega
  · rw [e 0 (by omega) (by omega), e 2 (by omega) (by omega), e 3 (by omega) (by omega)]; omega
  · rw [e 0 (by omega) (by omega), e 1 (by omega) (by omega), e 3 (by omega) (by omega)]; omega
  · rw [e 0 (by omega) (by omega), e 1 (by omega) (by omega), e 2 (by omega) (by omega)]; omega

variable {a : Nat → SAsk} {N : Nat} {t : Int} {g : Tg}

/-- What begins is under way. -/
theorem op_new (b : SAsk) : b.op.begun = false ∧ b.op.does = 0 ∧ b.op.own = 0 ∧ b.op.linked = 0 ∧ b.op.had = false ∧ b.op.key = b.key ∧ b.op.kind = b.kd ∧ (b.kd = 0 → b.op.height = hgt b.height ∧ b.op.ref = b.ref) ∧ (0 ≤ b.op.height ∧ b.op.height ≤ 8 ∧ (b.kd = 0 → 1 ≤ b.op.height)) ∧
    (b.kd ≠ 2 → b.op.wd = b.key) ∧ (b.kd = 2 → b.op.wd.size ≤ 16) := by
  have hr := hgt_range b.height
  unfold SAsk.op
  rcases b.kd3 with h | h | h
  · rw [if_pos h]
    exact ⟨rfl, rfl, rfl, rfl, rfl, rfl, h.symm, fun _ => ⟨rfl, rfl⟩, ⟨by show 0 ≤ hgt b.height; omega, hr.2, fun _ => hr.1⟩, fun _ => rfl, fun h2 => by omega⟩
  · rw [if_neg (by omega), if_pos h]
    exact ⟨rfl, rfl, rfl, rfl, rfl, rfl, h.symm, fun h2 => by omega, ⟨Int.le_refl _, by show (0 : Int) ≤ 8; omega, fun h2 => by omega⟩, fun _ => rfl, fun h2 => by omega⟩
  · rw [if_neg (by omega), if_neg (by omega)]
    exact ⟨rfl, rfl, rfl, rfl, rfl, rfl, h.symm, fun h2 => by omega, ⟨Int.le_refl _, by show (0 : Int) ≤ 8; omega, fun h2 => by omega⟩, fun h2 => absurd h h2, fun _ => by show 0 ≤ 16; omega⟩
theorem opi_new (T : ASk) (C : Nat → List Nat) (b : SAsk) : OpI T C b.op (C 0) := by
  obtain ⟨e1, e2, e3, e4, e5, e6, e7, e8, e9, e10, e11⟩ := op_new b
  have no : ∀ {P : Prop}, b.op.begun = true → P := fun h => by rw [e1] at h; cases h
  exact ⟨fun u hu => hu, by rw [e7]; exact b.kd3, by rw [e7, e6]; exact ⟨e10, e11⟩, fun h => no h, ⟨e9.1, e9.2.1, fun h => e9.2.2 (by rw [← e7]; exact h)⟩, e5, fun _ => ⟨e2, e3, e4⟩, .inl ⟨e3, e4⟩, .inl e2, fun h => absurd e2 h, fun h => no h, fun h => no h, fun h => absurd e2 h, fun h => by rw [e2] at h; exact absurd h (by omega)⟩

/-- What an operation found is in. -/
theorem Said.inC {T : ASk} {C : Nat → List Nat} {q : ASop} {ref : Int} {D : List Nat} (h : Said T C q ref D) (hc : q.code = 0) (hk : q.kind = 0 ∨ q.had = true) : ∃ u ∈ C 0, ky T u = q.found := by
  obtain ⟨_, ⟨_, _, b, _⟩ | ⟨_, _, ⟨_, _, v, b3, b4, _⟩ | ⟨b1, b2, _⟩ | ⟨_, _, b3, v, b4, b5, _⟩ | ⟨b1, b2, _⟩ | ⟨_, _, b3, _, v, b5, _, b7, _⟩⟩⟩ := h
  · rw [hc] at b; exact absurd b (by omega)
  · exact ⟨v, b3, b4.symm⟩
  · rcases hk with h | h
    · omega
    · rw [b2] at h; cases h
  · exact ⟨v, b4, b5.trans b3.symm⟩
  · rcases hk with h | h
    · omega
    · rw [b2] at h; cases h
  · exact ⟨v, b5, b7.trans b3.symm⟩

theorem TgI.begin (h : TgI a N t g) {w : Nat} (hw : w < 4) (hnow : g.now w = none) (hp : g.pos w < N) (hk : wkN (a (g.pos w)).wk = w) : TgI a N (t + 1) (g.begin a t w) := by
  have lt_ne : ∀ {k : Nat}, k < g.n → k ≠ g.n := fun h => by omega
  have hq : ∀ k, k < g.n → (g.begin a t w).q k = g.q k ∧ (g.begin a t w).x k = g.x k ∧ (g.begin a t w).bg k = g.bg k ∧ (g.begin a t w).en k = g.en k ∧ (g.begin a t w).D k = g.D k := fun k hk9 =>
    ⟨updA_ne _ _ (lt_ne hk9), updA_ne _ _ (lt_ne hk9), updA_ne _ _ (lt_ne hk9), updA_ne _ _ (lt_ne hk9), updA_ne _ _ (lt_ne hk9)⟩
  have nq : (g.begin a t w).q g.n = (a (g.pos w)).op := updA_at _ _ _
  have nx : (g.begin a t w).x g.n = g.pos w := updA_at _ _ _
  have nbg : (g.begin a t w).bg g.n = t := updA_at _ _ _
  have nen : (g.begin a t w).en g.n = -1 := updA_at _ _ _
  have nD : (g.begin a t w).D g.n = g.C 0 := updA_at _ _ _
  have nnow : (g.begin a t w).now w = some g.n := updA_at _ _ _
  have onow : ∀ v, v ≠ w → (g.begin a t w).now v = g.now v := fun v hv => updA_ne _ _ hv
  have npos : (g.begin a t w).pos w = g.pos w + 1 := updA_at _ _ _
  have opos : ∀ v, v ≠ w → (g.begin a t w).pos v = g.pos v := fun v hv => updA_ne _ _ hv
  have two : ∀ k, k < g.n + 1 → k < g.n ∨ k = g.n := fun k hk9 => by omega
  obtain ⟨e1, e2, e3, e4, e5, e6, e7, e8, e9, e10, e11⟩ := op_new (a (g.pos w))
  refine ⟨h.skp, h.size, by have := h.time; omega, ?_, ?_, ?_, fun k hk9 => ?_, fun k hk9 he => ?_, fun k hk9 he => ?_, fun v hv k hv2 => ?_, fun k l hk9 hl9 hkl => ?_, fun k hk9 => ?_, fun k l hk9 hl9 e => ?_, fun v hv => ?_, fun k hk9 => ?_, fun v hv => ?_, fun k hk9 he h1 => ?_, fun k l hk9 hl9 hh he => ?_, fun k hk9 h1 => ?_⟩
  · show g.T.used = 8 + (sumL (fun k => useQ ((g.begin a t w).q k)) g.n + useQ ((g.begin a t w).q g.n))
    rw [sumL_congr (h := fun k => useQ (g.q k)) fun k hk => by rw [(hq k hk).1], nq]
    have : useQ (a (g.pos w)).op = 0 := if_neg fun h => h.1 e3
    rw [this]; exact h.used
  · show g.T.nN = 1 + (sumL (fun k => own01 ((g.begin a t w).q k)) g.n + own01 ((g.begin a t w).q g.n))
    rw [sumL_congr (h := fun k => own01 (g.q k)) fun k hk => by rw [(hq k hk).1], nq]
    have : own01 (a (g.pos w)).op = 0 := if_pos e3
    rw [this]; exact h.nN
  · have e := sum4_one (f := fun w => unb a N w (g.pos w)) (h := fun v => unb a N v ((g.begin a t w).pos v)) hw fun v hv e => by
      show unb a N v ((g.begin a t w).pos v) = _
      rw [opos v e]
    rw [npos] at e
    have e2 := unb_take a N w (g.pos w) hp hk
    have e3 := h.asks
    show g.n + 1 + sum4 (fun v => unb a N v ((g.begin a t w).pos v)) = N
    omega
  · rcases two k hk9 with h9 | rfl
    · obtain ⟨e1, e2, e3, e4, _⟩ := hq k h9
      rw [e1, e2, e3, e4]
      obtain ⟨b1, b2, b3, b4, b5, b6, b7, b8, b9⟩ := h.key k h9
      exact ⟨b1, b2, b3, b4, b5, by omega, by omega, b8, b9⟩
    · rw [nq, nx, nbg, nen]
      have := h.time
      exact ⟨hp, e6, e7, fun h => (e8 h).1, this, by omega, by omega, fun h => by omega, e9.2.1⟩
  · rcases two k hk9 with h9 | rfl
    · obtain ⟨e1, e2, e3, e4, e5⟩ := hq k h9
      rw [e4] at he ⊢
      obtain ⟨b1, b2, b3, b4⟩ := h.go k h9 he
      rw [e1, e2, e5]
      refine ⟨b1, ?_, b3, b4⟩
      rw [onow _ fun e => by rw [e, hnow] at b2; cases b2]
      exact b2
    · rw [nen, nx, nq, nD, hk]
      exact ⟨rfl, nnow, fun h => (e8 h).2, opi_new _ _ _⟩
  · rcases two k hk9 with h9 | rfl
    · obtain ⟨e1, e2, e3, e4, e5⟩ := hq k h9
      rw [e4] at he
      rw [e1, e2, e5]
      exact h.done k h9 he
    · rw [nen] at he; omega
  · by_cases e : v = w
    · subst e
      rw [nnow] at hv2
      obtain rfl : g.n = k := by simpa using hv2
      rw [nx, nen]
      exact ⟨Nat.lt_succ_self _, hk, by omega⟩
    · rw [onow v e] at hv2
      obtain ⟨b1, b2, b3⟩ := h.now v hv k hv2
      obtain ⟨e1, e2, e3, e4, _⟩ := hq k b1
      rw [e2, e4]
      exact ⟨Nat.lt_succ_of_lt b1, b2, b3⟩
  · rcases two k hk9 with h9 | rfl
    · rcases two l hl9 with h8 | rfl
      · rw [(hq k h9).1, (hq l h8).1]
        exact h.apart k l h9 h8 hkl
      · rw [nq, e3]
        exact Decidable.em _
    · rw [nq]; exact .inl e3
  · rcases two k hk9 with h9 | rfl
    · rw [(hq k h9).1]; exact h.owns k h9
    · rw [nq, e3]
      have := h.skp.one
      exact ⟨Int.le_refl _, by show (0 : Int) < (g.T.nN : Int); omega⟩
  · have fresh : ∀ k, k < g.n → g.x k ≠ g.pos w := fun k h9 e => by
      have := h.past k h9
      rw [e, hk] at this; omega
    rcases two k hk9 with h9 | rfl
    · rcases two l hl9 with h8 | rfl
      · rw [(hq k h9).2.1, (hq l h8).2.1] at e
        exact h.inj k l h9 h8 e
      · rw [(hq k h9).2.1, nx] at e
        exact absurd e (fresh k h9)
    · rcases two l hl9 with h8 | rfl
      · rw [(hq l h8).2.1, nx] at e
        exact absurd e.symm (fresh l h8)
      · rfl
  · by_cases e : v = w
    · subst e; rw [npos]; exact hp
    · rw [opos v e]; exact h.pos v hv
  · rcases two k hk9 with h9 | rfl
    · rw [(hq k h9).2.1]
      have := h.past k h9
      by_cases e : wkN (a (g.x k)).wk = w
      · rw [e] at this ⊢; rw [npos]; omega
      · rw [opos _ e]; exact this
    · rw [nx, hk, npos]; omega
  · obtain ⟨k, b1, b2, b3, b4, b5, b6⟩ := h.who v hv
    obtain ⟨e1, e2, e3, e4, _⟩ := hq _ b1
    refine ⟨k, Nat.lt_succ_of_lt b1, ?_⟩
    rw [e1, e2]
    exact ⟨b2, b3, b4, b5, b6⟩
  · rcases two k hk9 with h9 | rfl
    · obtain ⟨e1, e2, e3, e4, _⟩ := hq k h9
      rw [e4] at he
      rw [e1] at h1 ⊢
      obtain ⟨l, v, b1, b2, b3, b4, b5⟩ := h.met k h9 he h1
      obtain ⟨f1, f2, f3, f4, _⟩ := hq l b1
      refine ⟨l, v, Nat.lt_succ_of_lt b1, b2, ?_⟩
      rw [f1, f3, e4]
      exact ⟨b3, b4, b5⟩
    · rw [nen] at he; omega
  · rcases two k hk9 with h9 | rfl
    · obtain ⟨e1, e2, e3, e4, _⟩ := hq k h9
      have hh' : g.here k := by
        unfold Tg.here at hh ⊢
        rw [e1, e4] at hh
        exact hh
      rw [e1]
      rcases two l hl9 with h8 | rfl
      · obtain ⟨f1, f2, f3, f4, f5⟩ := hq l h8
        rw [e4, f3] at he
        rw [f5]
        exact h.seen k l h9 h8 hh' he
      · rw [nD]
        exact (h.done k h9 hh'.1).1.inC hh'.2.1 hh'.2.2
    · obtain ⟨h1, _⟩ := hh
      rw [nen] at h1; omega
  · rcases two k hk9 with h9 | rfl
    · rw [(hq k h9).1] at h1 ⊢; exact h.noown k h9 h1
    · rw [nq]; exact e3
end Go.Proofs.YtpckpgdkfimapaaDoor
