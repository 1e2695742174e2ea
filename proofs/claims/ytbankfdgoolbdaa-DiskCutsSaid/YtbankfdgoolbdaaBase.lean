/- Words on memory for the proofs of this seat: a block of plain cells by a function, what a call keeps, a block that a slice owns. Plain lemmas: nothing is claimed of a program here. -/
import Derived.WalkKit
import Derived.Deep.QuietTactic
import Derived.BigQuiet
import Derived.Lib.Hide
import Derived.Below
import Derived.Laws.AppendOwn
import Derived.Laws.Bits64b
namespace Go.Proofs.Ytbankfdgoolbdaa
open Go Go.RowKit
set_option linter.unusedVariables false

/-- Block b is a row of n plain cells, cell i holding f i. -/
def Blk (w : World) (b n : Nat) (T : TypeId) (f : Nat → Value) : Prop :=
  ∃ cs : Array Value, w.heap[b]? = some (.cells cs T (0, 0)) ∧ cs.size = n ∧ ∀ i, i < n → cs[i]? = some (f i)

theorem Blk.lt {w : World} {b n : Nat} {T : TypeId} {f : Nat → Value} (h : Blk w b n T f) : b < w.heap.size := by
  obtain ⟨cs, h, _⟩ := h
  exact (Array.getElem?_eq_some_iff.1 h).1

theorem Blk.cell {w : World} {b n : Nat} {T : TypeId} {f : Nat → Value} (h : Blk w b n T f) {i : Nat} (hi : i < n) : w.cell? ⟨b, i, none⟩ = some (f i) := by
  obtain ⟨cs, h, _, hc⟩ := h
  simp only [World.cell?, h]
  exact hc i hi

theorem Blk.free {w : World} {b n : Nat} {T : TypeId} {f : Nat → Value} (h : Blk w b n T f) (i : Nat) : w.frozen? ⟨b, i, none⟩ = false := by
  obtain ⟨cs, h, _, hc⟩ := h
  simp [World.frozen?, h]

def upd (f : Nat → Value) (i : Nat) (v : Value) : Nat → Value := fun j => if j = i then v else f j

theorem Blk.set {w : World} {b n : Nat} {T : TypeId} {f : Nat → Value} (h : Blk w b n T f) (i : Nat) (v : Value) : Blk (w.setCell ⟨b, i, none⟩ v) b n T (upd f i v) := by
  obtain ⟨cs, h, hn, hc⟩ := h
  refine ⟨cs.setIfInBounds i v, ?_, by simpa using hn, ?_⟩
  · simp [World.setCell, Array.getElem?_modify, h]
  · intro j hj
    unfold upd
    by_cases e : j = i
    · subst e; rw [if_pos rfl, Array.getElem?_setIfInBounds_self]; rw [if_pos (by omega)]
    · rw [if_neg e, Array.getElem?_setIfInBounds_ne (by omega)]; exact hc j hj

theorem Blk.congr {w : World} {b n : Nat} {T : TypeId} {f g : Nat → Value} (h : Blk w b n T f) (e : ∀ i, i < n → f i = g i) : Blk w b n T g := by
  obtain ⟨cs, h, hn, hc⟩ := h
  exact ⟨cs, h, hn, fun i hi => by rw [hc i hi, e i hi]⟩

theorem Blk.of_heap {w w' : World} {b n : Nat} {T : TypeId} {f : Nat → Value} (h : Blk w b n T f) (e : w'.heap[b]? = w.heap[b]?) : Blk w' b n T f := by
  obtain ⟨cs, h, hn, hc⟩ := h
  exact ⟨cs, by rw [e, h], hn, hc⟩

theorem Blk.other {w : World} {b n : Nat} {T : TypeId} {f : Nat → Value} (h : Blk w b n T f) {a : Addr} (v : Value) (ne : a.block ≠ b) : Blk (w.setCell a v) b n T f := by
  refine h.of_heap ?_
  simp [World.setCell, Array.getElem?_modify, ne]

theorem Blk.alloc {w : World} {b n : Nat} {T : TypeId} {f : Nat → Value} (h : Blk w b n T f) (o : Obj) : Blk (w.alloc o) b n T f :=
  h.of_heap (Below.heap_alloc w o b h.lt)

theorem Blk.drewN {w : World} {b n : Nat} {T : TypeId} {f : Nat → Value} (h : Blk w b n T f) (k : Nat) : Blk (w.drewN k) b n T f :=
  h.of_heap rfl

/-- What stands in the block that was laid last. -/
theorem Blk.made (w : World) (cs : Array Value) (T : TypeId) (f : Nat → Value) (n : Nat) (hn : cs.size = n) (hf : ∀ i, i < n → cs[i]? = some (f i)) : Blk (w.alloc (.cells cs T)) w.heap.size n T f :=
  ⟨cs, heap_alloc_new w _, hn, hf⟩

/-- All blocks of the first world but those named stand as they stood. -/
structure Kept (own : List Nat) (w w' : World) : Prop where
  os : w'.os = w.os
  tape : w'.tape = w.tape
  output : w'.output = w.output
  size : w.heap.size ≤ w'.heap.size
  block : ∀ k, k < w.heap.size → k ∉ own → w'.heap[k]? = w.heap[k]?

theorem Kept.refl (own : List Nat) (w : World) : Kept own w w := ⟨rfl, rfl, rfl, Nat.le_refl _, fun _ _ _ => rfl⟩

theorem Kept.mono {own own' : List Nat} {w w' : World} (h : Kept own w w') (s : ∀ k, k < w.heap.size → k ∈ own → k ∈ own') : Kept own' w w' :=
  ⟨h.os, h.tape, h.output, h.size, fun k hk hn => h.block k hk fun m => hn (s k hk m)⟩

/-- The second call may own blocks that the first one has laid. -/
theorem Kept.trans {own own' : List Nat} {w w1 w2 : World} (h : Kept own w w1) (h' : Kept own' w1 w2) (s : ∀ k, k < w.heap.size → k ∈ own' → k ∈ own) : Kept own w w2 :=
  ⟨h'.os.trans h.os, h'.tape.trans h.tape, h'.output.trans h.output, Nat.le_trans h.size h'.size, fun k hk hn =>
    (h'.block k (Nat.lt_of_lt_of_le hk h.size) fun m => hn (s k hk m)).trans (h.block k hk hn)⟩

theorem Kept.tr {own : List Nat} {w w1 w2 : World} (h : Kept own w w1) (h' : Kept own w1 w2) : Kept own w w2 := h.trans h' fun _ _ m => m

theorem Kept.drewN {own : List Nat} {w w' : World} (h : Kept own w w') (n : Nat) : Kept own w (w'.drewN n) :=
  ⟨h.os, h.tape, h.output, h.size, h.block⟩

theorem Kept.drew {own : List Nat} {w w' : World} (h : Kept own w w') : Kept own w w'.drew :=
  ⟨h.os, h.tape, h.output, h.size, h.block⟩

theorem Kept.set {own : List Nat} {w w' : World} (h : Kept own w w') {a : Addr} (v : Value) (m : a.block ∈ own) : Kept own w (w'.setCell a v) := by
  refine h.tr ⟨rfl, rfl, rfl, by simp, fun k _ hn => ?_⟩
  exact Below.heap_setCell w' a v k fun e => hn (e ▸ m)

/-- A store into a block that was not there at first. -/
theorem Kept.setNew {own : List Nat} {w w' : World} (h : Kept own w w') {a : Addr} (v : Value) (m : w.heap.size ≤ a.block) : Kept own w (w'.setCell a v) := by
  refine h.trans (own' := [a.block]) ⟨rfl, rfl, rfl, by simp, fun k _ hn => ?_⟩ ?_
  · exact Below.heap_setCell w' a v k fun e => hn (by simp [e])
  · intro k hk m'; simp at m'; omega

theorem Kept.alloc {own : List Nat} {w w' : World} (h : Kept own w w') (o : Obj) : Kept own w (w'.alloc o) :=
  h.tr ⟨rfl, rfl, rfl, by simp, fun k hk _ => Below.heap_alloc w' o k hk⟩

theorem Kept.grown {own : List Nat} {w w1 w2 : World} {row : Option Nat} (h : Kept own w w1) (g : w1.grownBy w2 row) (s : ∀ k, k < w.heap.size → row = some k → k ∈ own) : Kept own w w2 :=
  ⟨g.os.trans h.os, g.tape.trans h.tape, g.output.trans h.output, Nat.le_trans h.size g.size, fun k hk hn =>
    (g.block k (Nat.lt_of_lt_of_le hk h.size) fun e => hn (s k hk e.symm)).trans (h.block k hk hn)⟩

theorem Kept.below {own : List Nat} {w w' : World} {B : Nat} (h : Kept own w w') (hB : B ≤ w.heap.size) (s : ∀ k ∈ own, B ≤ k) : Below B w w' :=
  ⟨h.os, h.tape, h.output, h.size, fun k hk => h.block k (by omega) fun m => by have := s k m; omega⟩

theorem Kept.of_below {w w' : World} (h : Below w.heap.size w w') : Kept [] w w' :=
  ⟨h.os, h.tape, h.output, h.size, fun k hk _ => h.block k hk⟩

theorem Kept.cell {own : List Nat} {w w' : World} (h : Kept own w w') {b i : Nat} {v : Value} (hc : w.cell? ⟨b, i, none⟩ = some v) (hn : b ∉ own) : w'.cell? ⟨b, i, none⟩ = some v := by
  have hb : b < w.heap.size := by
    simp only [World.cell?] at hc
    split at hc
    · rename_i c _ _ hh
      exact (Array.getElem?_eq_some_iff.1 hh).1
    · cases hc
  rw [World.cell?_of_block (w := w) (h.block b hb hn)]
  exact hc

theorem Kept.frozen {own : List Nat} {w w' : World} (h : Kept own w w') {b i : Nat} (hb : b < w.heap.size) (hn : b ∉ own) : w'.frozen? ⟨b, i, none⟩ = w.frozen? ⟨b, i, none⟩ :=
  World.frozen?_of_block (w := w) (h.block b hb hn)

theorem Kept.blk {own : List Nat} {w w' : World} (h : Kept own w w') {b n : Nat} {T : TypeId} {f : Nat → Value} (hb : Blk w b n T f) (hn : b ∉ own) : Blk w' b n T f :=
  hb.of_heap (h.block b hb.lt hn)

/-- The blocks that a slice value owns. -/
def rowsOf (v : Value) : List Nat := match v.ownBlock with | some k => [k] | none => []

theorem mem_rowsOf {v : Value} {k : Nat} : k ∈ rowsOf v ↔ v.ownBlock = some k := by
  unfold rowsOf
  cases v.ownBlock with
  | none => simp
  | some j => simp [eq_comm]

theorem Kept.row {own : List Nat} {w w' : World} (h : Kept own w w') {base n size : Nat} {e : TypeId} {v : Value} {xs : List Value} (r : w.ownsRow base e size v n xs) (hn : ∀ k, v.ownBlock = some k → k ∉ own) : w'.ownsRow base e size v n xs := by
  obtain ⟨hl, r⟩ := r
  refine ⟨hl, ?_⟩
  rcases r with r | ⟨g, cap, cur, rfl, hb, hg, r⟩
  · exact .inl r
  · refine .inr ⟨g, cap, cur, rfl, hb, ?_, r⟩
    rw [h.block g (Array.getElem?_eq_some_iff.1 hg).1 (hn g rfl)]
    exact hg

end Go.Proofs.Ytbankfdgoolbdaa
