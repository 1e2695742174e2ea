/- Rows of elements of several cells that a call owns: what is read, stored, appended; parts with a hidden content. Plain lemmas: nothing is claimed of a program here. -/
import Derived.Test.YtbankfdgoolbdaaSepMore
namespace Go.Proofs.Ytbankfdgoolbdaa
open Go Go.RowKit
set_option linter.unusedVariables false
variable {o : List Nat} {w0 w w' : World} {A B : Part} {fp : List Nat} {n k : Nat}

theorem addr0 (b i : Nat) : (⟨b, 0, none⟩ : Addr).add i = ⟨b, i, none⟩ := by
  simp only [Addr.add]
  split
  · rename_i h; subst h; rfl
  · simp

theorem rowN_open {e : TypeId} {size : Nat} {v : Value} {xs : List Value} (h : w.ownsRow 0 e size v n xs) :
    (v = .slice none 0 0 ∧ n = 0) ∨ ∃ g cap, v = .slice (some ⟨g, 0, none⟩) n cap ∧ n ≤ cap ∧ cap ≤ maxLen ∧ g < w.heap.size ∧ (∀ i, w.frozen? ⟨g, i, none⟩ = false) ∧ ∀ i u, xs[i]? = some u → w.cell? ⟨g, i, none⟩ = some u := by
  rcases h.2 with ⟨h1, h0⟩ | ⟨g, cap, cur, rfl, _, hg, hnc, hcm, hcs, htake⟩
  · exact .inl ⟨h1, h0⟩
  · refine .inr ⟨g, cap, rfl, hnc, hcm, (Array.getElem?_eq_some_iff.1 hg).1, fun i => by simp [World.frozen?, hg], fun i u hu => ?_⟩
    have := h.cells (g := g) rfl i u hu
    rwa [addr0] at this

theorem rowN_store {e : TypeId} {size g cap : Nat} {xs : List Value} (h : w.ownsRow 0 e size (.slice (some ⟨g, 0, none⟩) n cap) n xs) (j : Nat) (u : Value) :
    (w.setCell ⟨g, j, none⟩ u).ownsRow 0 e size (.slice (some ⟨g, 0, none⟩) n cap) n (xs.set j u) := by
  obtain ⟨hl, h1 | ⟨g', cap', cur, hv', h0, hg, h2, h3, h4, h5⟩⟩ := h
  · cases h1.1
  · cases hv'
    refine ⟨by simpa using hl, .inr ⟨g, cap, cur.setIfInBounds j u, rfl, Nat.zero_le _, ?_, h2, h3, by simpa using h4, ?_⟩⟩
    · simp [World.setCell, Array.getElem?_modify, hg]
    · simp only [Array.toList_setIfInBounds]
      rw [← h5, List.take_set]

theorem Has.rowStore {g cap len size : Nat} {e : TypeId} {xs : List Value} (h : Has o w0 w (.row e size (.slice (some ⟨g, 0, none⟩) len cap) len xs)) (j : Nat) (u : Value) :
    Has o w0 (w.setCell ⟨g, j, none⟩ u) (.row e size (.slice (some ⟨g, 0, none⟩) len cap) len (xs.set j u)) := by
  obtain ⟨fp, ⟨hr, rfl⟩, hn, k0⟩ := h
  exact Has.step hn k0 ⟨_, ⟨rowN_store hr j u, rfl⟩, fun x hx => .inl hx, (Kept.refl _ w).set _ (by simp [rowsOf, Value.ownBlock])⟩

theorem Has.rowAppend {w5 : World} {m len size : Nat} {e : TypeId} {v v' : Value} {xs news : List Value} (ob : Obj)
    (h : Has o w0 w (.row e size v len xs)) (happ : Appended (w.alloc ob) w5 e size v v' (len + m) (xs ++ news)) :
    Has o w0 w5 (.row e size v' (len + m) (xs ++ news)) := by
  obtain ⟨fp, ⟨hr, rfl⟩, hn, k⟩ := h
  have k1 : Kept (rowsOf v) w w5 := ((Kept.refl _ w).alloc ob).grown happ.grown fun b _ e => by simp [mem_rowsOf, e]
  refine Has.step hn k ⟨rowsOf v', ⟨happ.row, rfl⟩, ?_, k1⟩
  intro x hx
  rw [mem_rowsOf] at hx ⊢
  rcases happ.place with e | e
  · rw [e] at hx; exact .inl hx
  · rw [e] at hx
    simp only [Option.some.injEq] at hx
    right
    have : (w.alloc ob).heap.size = w.heap.size + 1 := by simp
    omega

/-- Elements laid one behind the other. -/
def flatN (n : Nat) (f : Nat → List Value) : List Value := (List.range n).flatMap f

theorem flatN_succ (n : Nat) (f : Nat → List Value) : flatN (n + 1) f = flatN n f ++ f n := by
  unfold flatN
  rw [List.range_succ, List.flatMap_append, List.flatMap_singleton]

theorem flatN_len {f : Nat → List Value} (hk : ∀ i, (f i).length = k) (n : Nat) : (flatN n f).length = n * k := by
  induction n with
  | zero => simp [flatN]
  | succ n ih => rw [flatN_succ, List.length_append, ih, hk, Nat.succ_mul]

theorem flatN_congr {f g : Nat → List Value} (h : ∀ i, i < n → f i = g i) : flatN n f = flatN n g := by
  induction n with
  | zero => rfl
  | succ n ih => rw [flatN_succ, flatN_succ, ih fun i hi => h i (by omega), h n (by omega)]

theorem flatN_get {f : Nat → List Value} (hk : ∀ i, (f i).length = k) {i j : Nat} (hi : i < n) (hj : j < k) : (flatN n f)[i * k + j]? = (f i)[j]? := by
  induction n with
  | zero => omega
  | succ n ih =>
    rw [flatN_succ]
    have hl := flatN_len hk n
    by_cases e : i < n
    · have : (i + 1) * k ≤ n * k := Nat.mul_le_mul_right k e
      rw [List.getElem?_append_left (by rw [hl]; rw [Nat.succ_mul] at this; omega)]
      exact ih e
    · obtain rfl : i = n := by omega
      rw [List.getElem?_append_right (by rw [hl]; omega), hl]
      congr 1
      omega

theorem flatN_set {f : Nat → List Value} (hk : ∀ i, (f i).length = k) {i j : Nat} (hi : i < n) (hj : j < k) (u : Value) : (flatN n f).set (i * k + j) u = flatN n (fun d => if d = i then (f i).set j u else f d) := by
  induction n with
  | zero => omega
  | succ n ih =>
    rw [flatN_succ, flatN_succ]
    have hl := flatN_len hk n
    by_cases e : i < n
    · have : (i + 1) * k ≤ n * k := Nat.mul_le_mul_right k e
      rw [List.set_append_left _ _ (by rw [hl]; rw [Nat.succ_mul] at this; omega), ih e, if_neg (by omega)]
    · obtain rfl : i = n := by omega
      rw [List.set_append_right _ _ (by rw [hl]; omega), hl, if_pos rfl, flatN_congr (g := fun d => if d = i then (f i).set j u else f d) fun d hd => by rw [if_neg (by omega)]]
      congr 2
      omega

noncomputable def Part.rows (e : TypeId) (k : Nat) (v : Value) (n : Nat) (f : Nat → List Value) : Part := .row e k v n (flatN n f)

theorem rows_congr {e : TypeId} {v : Value} {f g : Nat → List Value} (h : ∀ i, i < n → f i = g i) : Part.rows e k v n f = Part.rows e k v n g := by
  unfold Part.rows
  rw [flatN_congr h]

theorem Has.rowsOwn {e : TypeId} {v : Value} {f : Nat → List Value} (h : Has o w0 w (.rows e k v n f)) : w.ownsRow 0 e k v n (flatN n f) := by
  obtain ⟨fp, ⟨hr, _⟩, _⟩ := h
  exact hr

theorem Has.rowsSlice {e : TypeId} {v : Value} {f : Nat → List Value} (h : Has o w0 w (.rows e k v n f)) : ∃ p c, v = .slice p n c := by
  rcases rowN_open h.rowsOwn with ⟨e, h0⟩ | ⟨g, c, e, _⟩
  · exact ⟨none, 0, by rw [h0]; exact e⟩
  · exact ⟨_, c, e⟩

theorem Has.rowsSmall {e : TypeId} {v : Value} {f : Nat → List Value} (h : Has o w0 w (.rows e k v n f)) : n ≤ maxLen := by
  rcases rowN_open h.rowsOwn with ⟨e, h0⟩ | ⟨g, c, e, h1, h2, _⟩
  · rw [h0]; exact Nat.zero_le _
  · exact Nat.le_trans h1 h2

/-- An element's cells, and stores to them. -/
theorem Has.rowsAt {e : TypeId} {v : Value} {f : Nat → List Value} (h : Has o w0 w (.rows e k v n f)) (hk : ∀ i, (f i).length = k) {i : Nat} (hi : i < n) :
    ∃ g cap, v = .slice (some ⟨g, 0, none⟩) n cap ∧ (∀ j u, (f i)[j]? = some u → w.cell? ⟨g, i * k + j, none⟩ = some u) ∧ (∀ j, w.frozen? ⟨g, j, none⟩ = false) ∧
      ∀ j u, j < k → Has o w0 (w.setCell ⟨g, i * k + j, none⟩ u) (.rows e k v n (fun d => if d = i then (f i).set j u else f d)) := by
  rcases rowN_open h.rowsOwn with ⟨e, h0⟩ | ⟨g, cap, rfl, _, _, _, hf, hc⟩
  · omega
  · refine ⟨g, cap, rfl, fun j u hu => hc _ _ ?_, hf, fun j u hj => ?_⟩
    · have hj : j < k := by rw [← hk i]; exact (List.getElem?_eq_some_iff.1 hu).1
      rw [flatN_get hk hi hj, hu]
    · have := Has.rowStore h (i * k + j) u
      rwa [flatN_set hk hi hj u] at this

/-- One more element. -/
theorem Has.rowsMore {w5 : World} {e : TypeId} {v v' : Value} {f : Nat → List Value} {x : List Value} (ob : Obj) (h : Has o w0 w (.rows e k v n f)) (happ : Appended (w.alloc ob) w5 e k v v' (n + 1) (flatN n f ++ x)) :
    Has o w0 w5 (.rows e k v' (n + 1) (fun d => if d = n then x else f d)) := by
  have := Has.rowAppend ob h happ
  unfold Part.rows
  rw [flatN_succ, if_pos rfl, flatN_congr (g := f) fun i hi => if_neg (by omega)]
  exact this

theorem Has.rowsNil (w : World) (e : TypeId) (k : Nat) (f : Nat → List Value) : Has [] w w (.rows e k (.slice none 0 0) 0 f) := ⟨[], ⟨World.ownsRow_nil _ _ _ _, by simp [rowsOf, Value.ownBlock]⟩, by simp, Kept.refl _ _⟩

/-- A part whose content is hidden. -/
def Part.ex {α : Type} (f : α → Part) : Part where
  at_ w fp := ∃ a, (f a).at_ w fp
  lt := by rintro w fp ⟨a, h⟩ x hx; exact (f a).lt h x hx
  kept := by rintro own w w' fp ⟨a, h⟩ k hn; exact ⟨a, (f a).kept h k hn⟩

/-- A part of which something is so. -/
def Part.when (p : Prop) (A : Part) : Part where
  at_ w fp := p ∧ A.at_ w fp
  lt := by rintro w fp ⟨_, h⟩ x hx; exact A.lt h x hx
  kept := by rintro own w w' fp ⟨hp, h⟩ k hn; exact ⟨hp, A.kept h k hn⟩

theorem Has.exOut {α : Type} {f : α → Part} (h : Has o w0 w (.ex f)) : ∃ a, Has o w0 w (f a) := by
  obtain ⟨fp, ⟨a, h⟩, hn, k⟩ := h
  exact ⟨a, fp, h, hn, k⟩
theorem Has.exIn {α : Type} {f : α → Part} (a : α) (h : Has o w0 w (f a)) : Has o w0 w (.ex f) := by
  obtain ⟨fp, h, hn, k⟩ := h
  exact ⟨fp, ⟨a, h⟩, hn, k⟩
theorem Has.whenOut {p : Prop} (h : Has o w0 w (.when p A)) : p ∧ Has o w0 w A := by
  obtain ⟨fp, ⟨hp, h⟩, hn, k⟩ := h
  exact ⟨hp, fp, h, hn, k⟩
theorem Has.whenIn {p : Prop} (hp : p) (h : Has o w0 w A) : Has o w0 w (.when p A) := by
  obtain ⟨fp, h, hn, k⟩ := h
  exact ⟨fp, ⟨hp, h⟩, hn, k⟩

/-- A block's cells, and stores to them. -/
theorem Has.blkAt {b : Nat} {T : TypeId} {f : Nat → Value} (h : Has o w0 w (.blk b n T f)) {i : Nat} (hi : i < n) :
    w.cell? ⟨b, i, none⟩ = some (f i) ∧ w.frozen? ⟨b, i, none⟩ = false ∧ ∀ u, Has o w0 (w.setCell ⟨b, i, none⟩ u) (.blk b n T (upd f i u)) := by
  obtain ⟨fp, ⟨hb, rfl⟩, hn, k⟩ := h
  exact ⟨hb.cell hi, hb.free i, fun u => Has.step hn k ⟨[b], ⟨hb.set i u, rfl⟩, fun x hx => .inl hx, (Kept.refl _ w).set _ (by simp)⟩⟩
end Go.Proofs.Ytbankfdgoolbdaa
