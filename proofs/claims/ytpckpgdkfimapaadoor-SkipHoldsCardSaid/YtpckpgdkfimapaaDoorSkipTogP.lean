/- Operations of four workers in memory. Plain lemmas: nothing is claimed of a program here. -/
import Derived.Test.YtpckpgdkfimapaaDoorSkipBegun
import Derived.Test.YtpckpgdkfimapaaDoorOpenAsks10
namespace Go.Proofs.YtpckpgdkfimapaaDoor
open Go Go.RowKit
set_option linter.unusedVariables false

variable {o : List Nat} {w0 w w' : World} {b n m ga gn : Nat} {T : ASk} {obs : Nat → Nat} {qs : Nat → ASop} {lv : Value} {R : Nat → List Value} {F G : Nat → Value} {M : Part}

def InRow (w : World) (p : Option Addr) (n : Nat) (z : Nat → Int) : Prop := (p = none → n = 0) ∧ (0 < n → ∃ b off, p = some ⟨b, off, none⟩ ∧ b < w.heap.size ∧ ∀ i, i < n → w.cell? ⟨b, off + i, none⟩ = some (.int .i64 (z i)))
theorem InRow.cell {p : Option Addr} {z : Nat → Int} (h : InRow w p n z) (k : Kept [] w w') {i : Nat} (hi : i < n) : ∃ b off, p = some ⟨b, off, none⟩ ∧ w'.cell? ⟨b, off + i, none⟩ = some (.int .i64 (z i)) := by
  obtain ⟨b, off, e, _, hc⟩ := h.2 (by omega)
  exact ⟨b, off, e, k.cell (hc i hi) (by simp)⟩

/-- Two blocks of four numbers behind the operations and their rows. -/
noncomputable def Part.tg (M : Part) (lv : Value) (m : Nat) (R : Nat → List Value) (ga gn : Nat) (F G : Nat → Value) : Part :=
  M.sep ((Part.rows 40 8 lv m R).sep ((Part.blk ga 4 3 F).sep (.blk gn 4 3 G)))

theorem tg_now (h : Has o w0 w (.tg M lv m R ga gn F G)) {v : Nat} (hv : v < 4) : w.cell? ⟨gn, v, none⟩ = some (G v) ∧ w.frozen? ⟨gn, v, none⟩ = false ∧ ∀ u, Has o w0 (w.setCell ⟨gn, v, none⟩ u) (.tg M lv m R ga gn F (upd G v u)) := by
  obtain ⟨o1, h1, _, _, b1⟩ := Has.right h
  obtain ⟨o2, h2, _, _, b2⟩ := h1.right
  obtain ⟨o3, h3, _, _, b3⟩ := h2.right
  obtain ⟨c, z, hp⟩ := h3.blkAt hv
  exact ⟨c, z, fun u => b1 _ _ (b2 _ _ (b3 _ _ (hp u)))⟩
theorem tg_pos (h : Has o w0 w (.tg M lv m R ga gn F G)) {v : Nat} (hv : v < 4) : w.cell? ⟨ga, v, none⟩ = some (F v) ∧ w.frozen? ⟨ga, v, none⟩ = false ∧ ∀ u, Has o w0 (w.setCell ⟨ga, v, none⟩ u) (.tg M lv m R ga gn (upd F v u) G) := by
  obtain ⟨o1, h1, _, _, b1⟩ := Has.right h
  obtain ⟨o2, h2, _, _, b2⟩ := h1.right
  obtain ⟨o3, h3, _, _, b3⟩ := h2.left
  obtain ⟨c, z, hp⟩ := h3.blkAt hv
  exact ⟨c, z, fun u => b1 _ _ (b2 _ _ (b3 _ _ (hp u)))⟩
theorem tg_rows (h : Has o w0 w (.tg M lv m R ga gn F G)) : ∃ o', Has o' w w (.rows 40 8 lv m R) ∧ ∀ w' lv' m' R', Has o' w w' (.rows 40 8 lv' m' R') → Has o w0 w' (.tg M lv' m' R' ga gn F G) := by
  obtain ⟨o1, h1, _, _, b1⟩ := Has.right h
  obtain ⟨o2, h2, _, _, b2⟩ := h1.left
  exact ⟨o2, h2, fun w' lv' m' R' h' => b1 _ _ (b2 _ _ h')⟩
theorem tg_ops (h : Has o w0 w (.tg M lv m R ga gn F G)) : ∃ o', Has o' w w M ∧ (∀ x ∈ o', x ∈ o ∨ w0.heap.size ≤ x) ∧ ∀ w' M', Has o' w w' M' → Has o w0 w' (.tg M' lv m R ga gn F G) := by
  obtain ⟨o1, h1, p1, _, b1⟩ := Has.left h
  exact ⟨o1, h1, p1, fun w' M' h' => b1 _ _ h'⟩
theorem tg_congr {R' : Nat → List Value} {F' G' : Nat → Value} (h : Has o w0 w (.tg M lv m R ga gn F G)) (hR : ∀ i, i < m → R i = R' i) (hF : ∀ i, i < 4 → F i = F' i) (hG : ∀ i, i < 4 → G i = G' i) : Has o w0 w (.tg M lv m R' ga gn F' G') := by
  have e : Part.rows 40 8 lv m R = Part.rows 40 8 lv m R' := rows_congr hR
  obtain ⟨fp, ⟨f1, r1, hM, ⟨f2, r2, hR2, ⟨f3, f4, ⟨hA, e3⟩, ⟨hB, e4⟩, d3, e5⟩, d2, e2⟩, d1, e1⟩, hn, k⟩ := h
  rw [e] at hR2
  exact ⟨fp, ⟨f1, r1, hM, ⟨f2, r2, hR2, ⟨f3, f4, ⟨hA.congr hF, e3⟩, ⟨hB.congr hG, e4⟩, d3, e5⟩, d2, e2⟩, d1, e1⟩, hn, k⟩

/-- The rows, and the numbers, of operations under way. -/
def nowI (g : Tg) (v : Nat) : Int := match g.now v with
  | none => -1
  | some k => (k : Int)
def undF (a : Nat → SAsk) (obs : Nat → Nat) (g : Tg) (k : Nat) : List Value :=
  [.int .i64 (a (g.x k)).wk, .int .i64 (a (g.x k)).kind, .string (a (g.x k)).key, .int .i64 (a (g.x k)).ref, .int .i64 (a (g.x k)).height, .pointer (some ⟨obs k, 0, none⟩), .int .i64 (g.bg k), .int .i64 (g.en k)]
def posF (g : Tg) (v : Nat) : Value := .int .i64 (g.pos v : Nat)
def nowF (g : Tg) (v : Nat) : Value := .int .i64 (nowI g v)
noncomputable def Part.tog (b : Nat) (lv : Value) (ga gn : Nat) (obs : Nat → Nat) (a : Nat → SAsk) (g : Tg) : Part :=
  .tg (.many b g.T g.n obs g.q) lv g.n (undF a obs g) ga gn (posF g) (nowF g)

theorem undF_len (a : Nat → SAsk) (obs : Nat → Nat) (g : Tg) (k : Nat) : (undF a obs g k).length = 8 := rfl

/-- The operation of a row, and its cells. -/
theorem tg_row {g : Tg} {a : Nat → SAsk} (h : Has o w0 w (.tg M lv g.n (undF a obs g) ga gn F G)) {k : Nat} (hk : k < g.n) :
    ∃ gl cap, lv = .slice (some ⟨gl, 0, none⟩) g.n cap ∧ (∀ j u, (undF a obs g k)[j]? = some u → w.cell? ⟨gl, k * 8 + j, none⟩ = some u) ∧ w.frozen? ⟨gl, k * 8 + 7, none⟩ = false ∧ g.n ≤ maxLen ∧
      ∀ u, Has o w0 (w.setCell ⟨gl, k * 8 + 7, none⟩ u) (.tg M lv g.n (fun d => if d = k then (undF a obs g k).set 7 u else undF a obs g d) ga gn F G) := by
  obtain ⟨o1, h1, b1⟩ := tg_rows h
  obtain ⟨gl, cap, e, hc, hf, hs⟩ := h1.rowsAt (undF_len a obs g) hk
  exact ⟨gl, cap, e, hc, hf _, h1.rowsSmall, fun u => b1 _ _ _ _ (hs 7 u (by omega))⟩
theorem tog_row {g : Tg} {a : Nat → SAsk} (h : Has o w0 w (.tog b lv ga gn obs a g)) {k : Nat} (hk : k < g.n) :
    ∃ gl cap, lv = .slice (some ⟨gl, 0, none⟩) g.n cap ∧ (∀ j u, (undF a obs g k)[j]? = some u → w.cell? ⟨gl, k * 8 + j, none⟩ = some u) ∧ g.n ≤ maxLen := by
  obtain ⟨gl, cap, e, h1, _, h2, _⟩ := tg_row h hk
  exact ⟨gl, cap, e, h1, h2⟩
theorem tog_next {g' : Tg} {a : Nat → SAsk} {n' : Nat} (h : Has o w0 w (.tg (.many b T n' obs qs) lv n' R ga gn F G)) (eT : g'.T = T) (en : g'.n = n') (eq : g'.q = qs) (hR : ∀ i, i < n' → R i = undF a obs g' i) (hF : ∀ i, i < 4 → F i = posF g' i) (hG : ∀ i, i < 4 → G i = nowF g' i) : Has o w0 w (.tog b lv ga gn obs a g') := by
  have := tg_congr h hR hF hG
  unfold Part.tog
  rw [eT, en, eq]
  exact this
theorem TgI.cast {N : Nat} {a : Nat → SAsk} {i : Nat} {g : Tg} (h : TgI a N ((i : Int) + 1) g) : TgI a N ((i + 1 : Nat) : Int) g := by
  rw [show ((i + 1 : Nat) : Int) = (i : Int) + 1 by omega]; exact h
theorem tog_slice {g : Tg} {a : Nat → SAsk} (h : Has o w0 w (.tog b lv ga gn obs a g)) : ∃ p c, lv = .slice p g.n c := by
  obtain ⟨o1, h1, b1⟩ := tg_rows h
  exact h1.rowsSlice

/-- A step of an operation in memory. -/
theorem tog_step {g : Tg} {a : Nat → SAsk} (h : Has [] w0 w (.tog b lv ga gn obs a g)) {k : Nat} (hk : k < g.n) (hT : TabAt w0) (hok : SkOk g.T (g.q k)) (tabs : 0 < w0.heap.size) :
    Calls Tryd.prog 21 #[.pointer (some ⟨obs k, 0, none⟩)] w fun e w' => e = .returned (.bool (stepS g.T (g.q k)).2.2) ∧ Has [] w0 w' (.tg (.many b (stepS g.T (g.q k)).1 g.n obs (updA g.q k (stepS g.T (g.q k)).2.1)) lv g.n (undF a obs g) ga gn (posF g) (nowF g)) := by
  obtain ⟨o1, h1, p1, b1⟩ := tg_ops h
  have ho : 0 ∉ o1 := fun hm => by
    rcases p1 _ hm with h2 | h2
    · cases h2
    · omega
  refine (many_step h1 hk (hT.kept h.keeps (by simp)) ho hok).mono ?_
  rintro e w' ⟨rfl, h'⟩
  exact ⟨rfl, b1 _ _ h'⟩
/-- What one that is over says, in memory. -/
theorem tog_ref {g : Tg} {a : Nat → SAsk} (h : Has o w0 w (.tog b lv ga gn obs a g)) {k : Nat} (hk : k < g.n) (h4 : (g.q k).does = 3) :
    Calls Tryd.prog 10 #[.pointer (some ⟨obs k, 0, none⟩)] w fun e w' => e = .returned (.tuple #[.string (g.q k).found, .int .i64 (g.q k).ref, .bool (g.q k).had, .int .i64 (g.q k).code]) ∧ Kept [] w w' := by
  obtain ⟨o1, h1, p1, b1⟩ := tg_ops h
  exact many_ref h1 hk h4

theorem TgI.ok {N : Nat} {a : Nat → SAsk} {t : Int} {g : Tg} (h : TgI a N t g) (hN : N ≤ 40) {k : Nat} (hk : k < g.n) (he : g.en k < 0) : SkOk g.T (g.q k) := by
  have h1 := h.usedLe
  have h2 := h.nNle
  have h3 := h.size
  exact (h.go k hk he).2.2.2.ok h.skp (by omega) (by omega)
/-- A row whose operation has ended. -/
theorem undF_end (a : Nat → SAsk) (obs : Nat → Nat) (g g' : Tg) (k : Nat) (t : Int) (hx : g'.x = g.x) (hb : g'.bg = g.bg) (he : g'.en = updA g.en k t) (d : Nat) : (if d = k then (undF a obs g k).set 7 (.int .i64 t) else undF a obs g d) = undF a obs g' d := by
  unfold undF
  rw [hx, hb, he]
  by_cases e : d = k
  · subst e; rw [if_pos rfl, updA_at]; rfl
  · rw [if_neg e, updA_ne _ _ e]
theorem undF_same (a : Nat → SAsk) (obs : Nat → Nat) (g g' : Tg) (hx : g'.x = g.x) (hb : g'.bg = g.bg) (he : g'.en = g.en) (d : Nat) : undF a obs g d = undF a obs g' d := by
  unfold undF
  rw [hx, hb, he]
theorem nowF_end (g g' : Tg) (v : Nat) (h : g'.now = updA g.now v none) (d : Nat) : upd (nowF g) v (.int .i64 (-1)) d = nowF g' d := by
  unfold upd nowF nowI
  rw [h]
  by_cases e : d = v
  · subst e; rw [if_pos rfl, updA_at]
  · rw [if_neg e, updA_ne _ _ e]
/-- An ask that begins, in memory. -/
theorem undF_begin (a : Nat → SAsk) (obs : Nat → Nat) (ob : Nat) (g : Tg) (t : Int) (v : Nat) (d : Nat) (hd : d < g.n + 1) :
    (if d = g.n then [.int .i64 (a (g.pos v)).wk, .int .i64 (a (g.pos v)).kind, .string (a (g.pos v)).key, .int .i64 (a (g.pos v)).ref, .int .i64 (a (g.pos v)).height, .pointer (some ⟨ob, 0, none⟩), .int .i64 t, .int .i64 (-1)] else undF a obs g d) = undF a (fun j => if j = g.n then ob else obs j) (g.begin a t v) d := by
  unfold undF
  dsimp only
  by_cases e : d = g.n
  · subst e
    rw [if_pos rfl, if_pos rfl, show (g.begin a t v).x g.n = g.pos v from updA_at _ _ _, show (g.begin a t v).bg g.n = t from updA_at _ _ _, show (g.begin a t v).en g.n = -1 from updA_at _ _ _]
  · rw [if_neg e, if_neg e, show (g.begin a t v).x d = g.x d from updA_ne _ _ e, show (g.begin a t v).bg d = g.bg d from updA_ne _ _ e, show (g.begin a t v).en d = g.en d from updA_ne _ _ e]
theorem posF_upd (g : Tg) (v p : Nat) (d : Nat) : upd (posF g) v (.int .i64 (p : Nat)) d = posF (g.skip v p) d := by
  unfold upd posF Tg.skip updA
  dsimp only
  split <;> rfl
theorem posF_begin (g : Tg) (a : Nat → SAsk) (t : Int) (v : Nat) (d : Nat) : upd (posF g) v (.int .i64 ((g.pos v + 1 : Nat) : Int)) d = posF (g.begin a t v) d := by
  unfold upd posF Tg.begin updA
  dsimp only
  split <;> rfl
theorem nowF_begin (g : Tg) (a : Nat → SAsk) (t : Int) (v : Nat) (d : Nat) : upd (nowF g) v (.int .i64 (g.n : Nat)) d = nowF (g.begin a t v) d := by
  unfold upd nowF nowI Tg.begin updA
  dsimp only
  split <;> rfl
end Go.Proofs.YtpckpgdkfimapaaDoor
