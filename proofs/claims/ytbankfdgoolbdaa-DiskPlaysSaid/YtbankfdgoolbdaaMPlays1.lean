/- Words on memory for the proofs of this seat: a block of plain cells by a function, what a call keeps, a block that a slice owns. Plain lemmas: nothing is claimed of a program here.
Parts of a memory side by side: each in blocks of its own. Plain lemmas: nothing is claimed of a program here.
An append to a slice of the call's own: the row lies where it lay, or in a new block. Nothing is claimed of a program here.
Rows of a call's own: what stands in them, and stores. Plain lemmas: nothing is claimed of a program here.
More on parts side by side: what may be forgotten, appends, stores, what is read. Plain lemmas: nothing is claimed of a program here.
Rows of elements of several cells that a call owns: what is read, stored, appended; parts with a hidden content. Plain lemmas: nothing is claimed of a program here.
Maps of strings of a call's own, as sorted lists of names and values; a map as a part. Plain lemmas and the maps' laws at this program's numbers. -/
import Derived.WalkKit
import Derived.Deep.QuietTactic
import Derived.BigQuiet
import Derived.Lib.Hide
import Derived.Below
import Derived.Laws.AppendOwn
import Derived.Laws.Bits64b
import Derived.Test.YtbankfdgoolbdaaProg
import Derived.Maps.RangeWalk
import Derived.Maps.OwnOps
import Derived.StringKeys
namespace Go.Proofs.Ytbankfdgoolbdaa
open Go Go.RowKit
set_option linter.unusedVariables false

/-- Block b is a row of n plain cells, cell i holding f i. -/
def Blk (w : World) (b n : Nat) (T : TypeId) (f : Nat → Value) : Prop :=
  ∃ cs : Array Value, w.heap[b]? = some (.cells cs T (0, 0)) ∧ cs.size = n ∧ ∀ i, i < n → cs[i]? = some (f i)

theorem Blk.lt {w : World} {b n : Nat} {T : TypeId} {f : Nat → Value} (h : Blk w b n T f) : b < w.heap.size := by
  obtain ⟨cs, h, _⟩ := h
  exact (Array.getElem?_eq_some_iff.1 h).1

theorem Blk.cell {w : World} {b n : Nat} {T : TypeId} {f : Nat → Value} (h : Blk w b n T f) {i : Nat} (hi : i < n) : w.cell? ⟨b, i, none⟩ = some (f i) := by
  obtain ⟨cs, h, _, hc⟩ := h
  simp only [World.cell?, h]
  exact hc i hi

theorem Blk.free {w : World} {b n : Nat} {T : TypeId} {f : Nat → Value} (h : Blk w b n T f) (i : Nat) : w.frozen? ⟨b, i, none⟩ = false := by
  obtain ⟨cs, h, _, hc⟩ := h
  simp [World.frozen?, h]

def upd (f : Nat → Value) (i : Nat) (v : Value) : Nat → Value := fun j => if j = i then v else f j

theorem Blk.set {w : World} {b n : Nat} {T : TypeId} {f : Nat → Value} (h : Blk w b n T f) (i : Nat) (v : Value) : Blk (w.setCell ⟨b, i, none⟩ v) b n T (upd f i v) := by
  obtain ⟨cs, h, hn, hc⟩ := h
  refine ⟨cs.setIfInBounds i v, ?_, by simpa using hn, ?_⟩
  · simp [World.setCell, Array.getElem?_modify, h]
  · intro j hj
    unfold upd
    by_cases e : j = i
    · subst e; rw [if_pos rfl, Array.getElem?_setIfInBounds_self]; rw [if_pos (by omega)]
    · rw [if_neg e, Array.getElem?_setIfInBounds_ne (by omega)]; exact hc j hj

theorem Blk.congr {w : World} {b n : Nat} {T : TypeId} {f g : Nat → Value} (h : Blk w b n T f) (e : ∀ i, i < n → f i = g i) : Blk w b n T g := by
  obtain ⟨cs, h, hn, hc⟩ := h
  exact ⟨cs, h, hn, fun i hi => by rw [hc i hi, e i hi]⟩

theorem Blk.of_heap {w w' : World} {b n : Nat} {T : TypeId} {f : Nat → Value} (h : Blk w b n T f) (e : w'.heap[b]? = w.heap[b]?) : Blk w' b n T f := by
  obtain ⟨cs, h, hn, hc⟩ := h
  exact ⟨cs, by rw [e, h], hn, hc⟩

theorem Blk.other {w : World} {b n : Nat} {T : TypeId} {f : Nat → Value} (h : Blk w b n T f) {a : Addr} (v : Value) (ne : a.block ≠ b) : Blk (w.setCell a v) b n T f := by
  refine h.of_heap ?_
  simp [World.setCell, Array.getElem?_modify, ne]

theorem Blk.alloc {w : World} {b n : Nat} {T : TypeId} {f : Nat → Value} (h : Blk w b n T f) (o : Obj) : Blk (w.alloc o) b n T f :=
  h.of_heap (Below.heap_alloc w o b h.lt)

theorem Blk.drewN {w : World} {b n : Nat} {T : TypeId} {f : Nat → Value} (h : Blk w b n T f) (k : Nat) : Blk (w.drewN k) b n T f :=
  h.of_heap rfl

/-- What stands in the block that was laid last. -/
theorem Blk.made (w : World) (cs : Array Value) (T : TypeId) (f : Nat → Value) (n : Nat) (hn : cs.size = n) (hf : ∀ i, i < n → cs[i]? = some (f i)) : Blk (w.alloc (.cells cs T)) w.heap.size n T f :=
  ⟨cs, heap_alloc_new w _, hn, hf⟩

/-- All blocks of the first world but those named stand as they stood. -/
structure Kept (own : List Nat) (w w' : World) : Prop where
  os : w'.os = w.os
  tape : w'.tape = w.tape
  output : w'.output = w.output
  size : w.heap.size ≤ w'.heap.size
  block : ∀ k, k < w.heap.size → k ∉ own → w'.heap[k]? = w.heap[k]?

theorem Kept.refl (own : List Nat) (w : World) : Kept own w w := ⟨rfl, rfl, rfl, Nat.le_refl _, fun _ _ _ => rfl⟩

theorem Kept.mono {own own' : List Nat} {w w' : World} (h : Kept own w w') (s : ∀ k, k < w.heap.size → k ∈ own → k ∈ own') : Kept own' w w' :=
  ⟨h.os, h.tape, h.output, h.size, fun k hk hn => h.block k hk fun m => hn (s k hk m)⟩

/-- The second call may own blocks that the first one has laid. -/
theorem Kept.trans {own own' : List Nat} {w w1 w2 : World} (h : Kept own w w1) (h' : Kept own' w1 w2) (s : ∀ k, k < w.heap.size → k ∈ own' → k ∈ own) : Kept own w w2 :=
  ⟨h'.os.trans h.os, h'.tape.trans h.tape, h'.output.trans h.output, Nat.le_trans h.size h'.size, fun k hk hn =>
    (h'.block k (Nat.lt_of_lt_of_le hk h.size) fun m => hn (s k hk m)).trans (h.block k hk hn)⟩

theorem Kept.tr {own : List Nat} {w w1 w2 : World} (h : Kept own w w1) (h' : Kept own w1 w2) : Kept own w w2 := h.trans h' fun _ _ m => m

theorem Kept.drewN {own : List Nat} {w w' : World} (h : Kept own w w') (n : Nat) : Kept own w (w'.drewN n) :=
  ⟨h.os, h.tape, h.output, h.size, h.block⟩

theorem Kept.drew {own : List Nat} {w w' : World} (h : Kept own w w') : Kept own w w'.drew :=
  ⟨h.os, h.tape, h.output, h.size, h.block⟩

theorem Kept.set {own : List Nat} {w w' : World} (h : Kept own w w') {a : Addr} (v : Value) (m : a.block ∈ own) : Kept own w (w'.setCell a v) := by
  refine h.tr ⟨rfl, rfl, rfl, by simp, fun k _ hn => ?_⟩
  exact Below.heap_setCell w' a v k fun e => hn (e ▸ m)

/-- A store into a block that was not there at first. -/
theorem Kept.setNew {own : List Nat} {w w' : World} (h : Kept own w w') {a : Addr} (v : Value) (m : w.heap.size ≤ a.block) : Kept own w (w'.setCell a v) := by
  refine h.trans (own' := [a.block]) ⟨rfl, rfl, rfl, by simp, fun k _ hn => ?_⟩ ?_
  · exact Below.heap_setCell w' a v k fun e => hn (by simp [e])
  · intro k hk m'; simp at m'; omega

theorem Kept.alloc {own : List Nat} {w w' : World} (h : Kept own w w') (o : Obj) : Kept own w (w'.alloc o) :=
  h.tr ⟨rfl, rfl, rfl, by simp, fun k hk _ => Below.heap_alloc w' o k hk⟩

theorem Kept.grown {own : List Nat} {w w1 w2 : World} {row : Option Nat} (h : Kept own w w1) (g : w1.grownBy w2 row) (s : ∀ k, k < w.heap.size → row = some k → k ∈ own) : Kept own w w2 :=
  ⟨g.os.trans h.os, g.tape.trans h.tape, g.output.trans h.output, Nat.le_trans h.size g.size, fun k hk hn =>
    (g.block k (Nat.lt_of_lt_of_le hk h.size) fun e => hn (s k hk e.symm)).trans (h.block k hk hn)⟩

theorem Kept.below {own : List Nat} {w w' : World} {B : Nat} (h : Kept own w w') (hB : B ≤ w.heap.size) (s : ∀ k ∈ own, B ≤ k) : Below B w w' :=
  ⟨h.os, h.tape, h.output, h.size, fun k hk => h.block k (by omega) fun m => by have := s k m; omega⟩

theorem Kept.of_below {w w' : World} (h : Below w.heap.size w w') : Kept [] w w' :=
  ⟨h.os, h.tape, h.output, h.size, fun k hk _ => h.block k hk⟩

theorem Kept.cell {own : List Nat} {w w' : World} (h : Kept own w w') {b i : Nat} {v : Value} (hc : w.cell? ⟨b, i, none⟩ = some v) (hn : b ∉ own) : w'.cell? ⟨b, i, none⟩ = some v := by
  have hb : b < w.heap.size := by
    simp only [World.cell?] at hc
    split at hc
    · rename_i c _ _ hh
      exact (Array.getElem?_eq_some_iff.1 hh).1
    · cases hc
  rw [World.cell?_of_block (w := w) (h.block b hb hn)]
  exact hc

theorem Kept.frozen {own : List Nat} {w w' : World} (h : Kept own w w') {b i : Nat} (hb : b < w.heap.size) (hn : b ∉ own) : w'.frozen? ⟨b, i, none⟩ = w.frozen? ⟨b, i, none⟩ :=
  World.frozen?_of_block (w := w) (h.block b hb hn)

theorem Kept.blk {own : List Nat} {w w' : World} (h : Kept own w w') {b n : Nat} {T : TypeId} {f : Nat → Value} (hb : Blk w b n T f) (hn : b ∉ own) : Blk w' b n T f :=
  hb.of_heap (h.block b hb.lt hn)

/-- The blocks that a slice value owns. -/
def rowsOf (v : Value) : List Nat := match v.ownBlock with | some k => [k] | none => []

theorem mem_rowsOf {v : Value} {k : Nat} : k ∈ rowsOf v ↔ v.ownBlock = some k := by
  unfold rowsOf
  cases v.ownBlock with
  | none => simp
  | some j => simp [eq_comm]

theorem Kept.row {own : List Nat} {w w' : World} (h : Kept own w w') {base n size : Nat} {e : TypeId} {v : Value} {xs : List Value} (r : w.ownsRow base e size v n xs) (hn : ∀ k, v.ownBlock = some k → k ∉ own) : w'.ownsRow base e size v n xs := by
  obtain ⟨hl, r⟩ := r
  refine ⟨hl, ?_⟩
  rcases r with r | ⟨g, cap, cur, rfl, hb, hg, r⟩
  · exact .inl r
  · refine .inr ⟨g, cap, cur, rfl, hb, ?_, r⟩
    rw [h.block g (Array.getElem?_eq_some_iff.1 hg).1 (hn g rfl)]
    exact hg

end Go.Proofs.Ytbankfdgoolbdaa
namespace Go.Proofs.Ytbankfdgoolbdaa
open Go Go.RowKit
set_option linter.unusedVariables false

/-- Something that lies in blocks of its own. -/
structure Part where
  at_ : World → List Nat → Prop
  lt : ∀ {w fp}, at_ w fp → ∀ x ∈ fp, x < w.heap.size
  kept : ∀ {own w w' fp}, at_ w fp → Kept own w w' → (∀ x ∈ fp, x ∉ own) → at_ w' fp

/-- Nothing. -/
def Part.emp : Part := ⟨fun _ fp => fp = [], fun h x hx => by simp [h] at hx, fun h _ _ => h⟩

/-- One beside the other. -/
def Part.sep (A B : Part) : Part where
  at_ w fp := ∃ f g, A.at_ w f ∧ B.at_ w g ∧ (∀ x ∈ f, x ∉ g) ∧ fp = f ++ g
  lt := by
    rintro w fp ⟨f, g, hA, hB, _, rfl⟩ x hx
    rcases List.mem_append.1 hx with h | h
    · exact A.lt hA x h
    · exact B.lt hB x h
  kept := by
    rintro own w w' fp ⟨f, g, hA, hB, hd, rfl⟩ k hn
    exact ⟨f, g, A.kept hA k fun x hx => hn x (by simp [hx]), B.kept hB k fun x hx => hn x (by simp [hx]), hd, rfl⟩

/-- A first world's blocks but those of o stand; the part lies in o or was made since. -/
def Has (o : List Nat) (w0 w : World) (A : Part) : Prop := ∃ fp, A.at_ w fp ∧ (∀ x ∈ fp, x ∈ o ∨ w0.heap.size ≤ x) ∧ Kept o w0 w

variable {o : List Nat} {w0 w w' : World} {A B C : Part} {fp : List Nat} {n : Nat} {f g : Nat → Part}

theorem Has.keeps (h : Has o w0 w A) : Kept o w0 w := by
  obtain ⟨_, _, _, k⟩ := h
  exact k

/-- What one part's call leaves: the part in its old blocks or in new ones, all else as it was. -/
theorem Has.step (hA : ∀ x ∈ fp, x ∈ o ∨ w0.heap.size ≤ x) (k : Kept o w0 w) (h : Has fp w w' B) : Has o w0 w' B := by
  obtain ⟨fp', hB, hn, k'⟩ := h
  refine ⟨fp', hB, ?_, k.trans k' fun j hj m => (hA j m).resolve_right (by omega)⟩
  intro x hx
  rcases hn x hx with h | h
  · exact hA x h
  · right; have := k.size; omega

theorem Has.refl (h : A.at_ w fp) : Has fp w w A := ⟨fp, h, fun x hx => .inl hx, Kept.refl _ _⟩

theorem Has.quiet (h : Has o w0 w A) (k : Kept [] w w') : Has o w0 w' A := by
  obtain ⟨fp, hA, hn, k0⟩ := h
  exact ⟨fp, A.kept hA k (by simp), hn, k0.trans k (by simp)⟩
theorem Has.alloc (h : Has o w0 w A) (ob : Obj) : Has o w0 (w.alloc ob) A := h.quiet ((Kept.refl [] w).alloc ob)
theorem Has.drewN (h : Has o w0 w A) (n : Nat) : Has o w0 (w.drewN n) A := h.quiet ((Kept.refl [] w).drewN n)

/-- The left part alone, and back. -/
theorem Has.left (h : Has o w0 w (A.sep B)) : ∃ o', Has o' w w A ∧ (∀ x ∈ o', x ∈ o ∨ w0.heap.size ≤ x) ∧ (∀ x ∈ o', x < w.heap.size) ∧ ∀ w' A', Has o' w w' A' → Has o w0 w' (A'.sep B) := by
  obtain ⟨fp, ⟨f, g, hA, hB, hd, rfl⟩, hn, k⟩ := h
  refine ⟨f, .refl hA, fun x hx => hn x (by simp [hx]), A.lt hA, ?_⟩
  rintro w' A' ⟨f', hA', hn', k'⟩
  refine ⟨f' ++ g, ⟨f', g, hA', B.kept hB k' fun x hx hx' => hd x hx' hx, ?_, rfl⟩, ?_, k.trans k' fun j hj m => (hn j (by simp [m])).resolve_right (by omega)⟩
  · intro x hx hx'
    rcases hn' x hx with h | h
    · exact hd x h hx'
    · have := B.lt hB x hx'; omega
  · intro x hx
    rcases List.mem_append.1 hx with hx | hx
    · rcases hn' x hx with h | h
      · exact hn x (by simp [h])
      · right; have := k.size; omega
    · exact hn x (by simp [hx])

theorem Has.swap (h : Has o w0 w (A.sep B)) : Has o w0 w (B.sep A) := by
  obtain ⟨fp, ⟨f, g, hA, hB, hd, rfl⟩, hn, k⟩ := h
  exact ⟨g ++ f, ⟨g, f, hB, hA, fun x hx hx' => hd x hx' hx, rfl⟩, fun x hx => hn x (by simp at hx ⊢; exact hx.symm), k⟩

theorem Has.assoc (h : Has o w0 w ((A.sep B).sep C)) : Has o w0 w (A.sep (B.sep C)) := by
  obtain ⟨fp, ⟨f, g, ⟨a, b, hA, hB, hd, rfl⟩, hC, hd', rfl⟩, hn, k⟩ := h
  refine ⟨a ++ (b ++ g), ⟨a, b ++ g, hA, ⟨b, g, hB, hC, fun x hx => hd' x (by simp [hx]), rfl⟩, ?_, rfl⟩, fun x hx => hn x (by simpa using hx), k⟩
  intro x hx hx'
  rcases List.mem_append.1 hx' with h | h
  · exact hd x hx h
  · exact hd' x (by simp [hx]) h

theorem Has.assoc' (h : Has o w0 w (A.sep (B.sep C))) : Has o w0 w ((A.sep B).sep C) := by
  obtain ⟨fp, ⟨a, bg, hA, ⟨b, g, hB, hC, hd', rfl⟩, hd, rfl⟩, hn, k⟩ := h
  refine ⟨(a ++ b) ++ g, ⟨a ++ b, g, ⟨a, b, hA, hB, fun x hx hx' => hd x hx (by simp [hx']), rfl⟩, hC, ?_, rfl⟩, fun x hx => hn x (by simpa using hx), k⟩
  intro x hx hx'
  rcases List.mem_append.1 hx with h | h
  · exact hd x h (by simp [hx'])
  · exact hd' x h hx'

/-- The right part alone, and back. -/
theorem Has.right (h : Has o w0 w (A.sep B)) : ∃ o', Has o' w w B ∧ (∀ x ∈ o', x ∈ o ∨ w0.heap.size ≤ x) ∧ (∀ x ∈ o', x < w.heap.size) ∧ ∀ w' B', Has o' w w' B' → Has o w0 w' (A.sep B') := by
  obtain ⟨o', h1, h2, h3, h4⟩ := h.swap.left
  exact ⟨o', h1, h2, h3, fun w' B' h => (h4 w' B' h).swap⟩

theorem Has.fst (h : Has o w0 w (A.sep B)) : Has o w0 w A := by
  obtain ⟨fp, ⟨f, g, hA, hB, hd, rfl⟩, hn, k⟩ := h
  exact ⟨f, hA, fun x hx => hn x (by simp [hx]), k⟩

theorem Has.mono (h : Has o w0 w A) (e : ∀ fp, A.at_ w fp → B.at_ w fp) : Has o w0 w B := by
  obtain ⟨fp, hA, hn, k⟩ := h
  exact ⟨fp, e fp hA, hn, k⟩

/-- A new part beside. -/
theorem Has.beside (h : Has o w0 w A) (hB : Has [] w w' B) : Has o w0 w' (A.sep B) := by
  obtain ⟨fp, hA, hn, k⟩ := h
  obtain ⟨g, hg, hgn, k'⟩ := hB
  have hg' : ∀ x ∈ g, w.heap.size ≤ x := fun x hx => (hgn x hx).resolve_left (by simp)
  refine ⟨fp ++ g, ⟨fp, g, A.kept hA k' (by simp), hg, fun x hx hx' => absurd (A.lt hA x hx) (by have := hg' x hx'; omega), rfl⟩, ?_, k.trans k' (by simp)⟩
  intro x hx
  rcases List.mem_append.1 hx with h | h
  · exact hn x h
  · right; have := k.size; have := hg' x h; omega

/-- A block of plain cells. -/
def Part.blk (b n : Nat) (T : TypeId) (f : Nat → Value) : Part where
  at_ w fp := Blk w b n T f ∧ fp = [b]
  lt := by rintro w fp ⟨h, rfl⟩ x hx; simp at hx; subst hx; exact h.lt
  kept := by rintro own w w' fp ⟨h, rfl⟩ k hn; exact ⟨k.blk h (hn b (by simp)), rfl⟩

/-- A row that a slice owns. -/
def Part.row (e : TypeId) (size : Nat) (v : Value) (n : Nat) (xs : List Value) : Part where
  at_ w fp := w.ownsRow 0 e size v n xs ∧ fp = rowsOf v
  lt := by
    rintro w fp ⟨h, rfl⟩ x hx
    rw [mem_rowsOf] at hx
    rcases h.2 with ⟨rfl, _⟩ | ⟨g, cap, cur, rfl, _, hg, _⟩
    · simp [Value.ownBlock] at hx
    · simp [Value.ownBlock] at hx; subst hx; exact (Array.getElem?_eq_some_iff.1 hg).1
  kept := by rintro own w w' fp ⟨h, rfl⟩ k hn; exact ⟨k.row h fun j hj => hn j (mem_rowsOf.2 hj), rfl⟩

/-- Many, one for each number below n. -/
def Part.all (n : Nat) (f : Nat → Part) : Part where
  at_ w fp := ∃ F : Nat → List Nat, (∀ i, i < n → (f i).at_ w (F i)) ∧ (∀ i j, i < n → j < n → i ≠ j → ∀ x ∈ F i, x ∉ F j) ∧ ∀ x, x ∈ fp ↔ ∃ i, i < n ∧ x ∈ F i
  lt := by
    rintro w fp ⟨F, h, hd, hm⟩ x hx
    obtain ⟨i, hi, hx⟩ := (hm x).1 hx
    exact (f i).lt (h i hi) x hx
  kept := by
    rintro own w w' fp ⟨F, h, hd, hm⟩ k hn
    exact ⟨F, fun i hi => (f i).kept (h i hi) k fun x hx => hn x ((hm x).2 ⟨i, hi, hx⟩), hd, hm⟩

def updP (f : Nat → Part) (i : Nat) (A : Part) : Nat → Part := fun j => if j = i then A else f j

theorem Has.pick (h : Has o w0 w (.all n f)) {i : Nat} (hi : i < n) : ∃ o', Has o' w w (f i) ∧ (∀ x ∈ o', x ∈ o ∨ w0.heap.size ≤ x) ∧ (∀ x ∈ o', x < w.heap.size) ∧ ∀ w' A', Has o' w w' A' → Has o w0 w' (.all n (updP f i A')) := by
  obtain ⟨fp, ⟨F, h, hd, hm⟩, hn, k⟩ := h
  refine ⟨F i, .refl (h i hi), fun x hx => hn x ((hm x).2 ⟨i, hi, hx⟩), (f i).lt (h i hi), ?_⟩
  rintro w' A' ⟨f', hA', hn', k'⟩
  let F' : Nat → List Nat := fun j => if j = i then f' else F j
  refine ⟨(List.range n).flatMap F', ⟨F', ?_, ?_, fun x => by simp⟩, ?_, k.trans k' fun j hj m => (hn j ((hm j).2 ⟨i, hi, m⟩)).resolve_right (by omega)⟩
  · intro j hj
    by_cases e : j = i
    · subst e
      simpa [F', updP] using hA'
    · simp only [F', updP, if_neg e]
      exact (f j).kept (h j hj) k' fun x hx => hd j i hj hi e x hx
  · intro a b ha hb hne x hx hx'
    by_cases ea : a = i
    · have eb : b ≠ i := by omega
      simp only [F', if_pos ea] at hx
      simp only [F', if_neg eb] at hx'
      rcases hn' x hx with h1 | h1
      · exact hd i b hi hb (by omega) x h1 hx'
      · have := (f b).lt (h b hb) x hx'; omega
    · simp only [F', if_neg ea] at hx
      by_cases eb : b = i
      · simp only [F', if_pos eb] at hx'
        rcases hn' x hx' with h1 | h1
        · exact hd a i ha hi (by omega) x hx h1
        · have := (f a).lt (h a ha) x hx; omega
      · simp only [F', if_neg eb] at hx'
        exact hd a b ha hb hne x hx hx'
  · intro x hx
    simp only [List.mem_flatMap, List.mem_range] at hx
    obtain ⟨j, hj, hx⟩ := hx
    by_cases e : j = i
    · simp only [F', if_pos e] at hx
      rcases hn' x hx with h1 | h1
      · exact hn x ((hm x).2 ⟨i, hi, h1⟩)
      · right; have := k.size; omega
    · simp only [F', if_neg e] at hx
      exact hn x ((hm x).2 ⟨j, hj, hx⟩)

/-- One more. -/
theorem Has.more (h : Has o w0 w (.all n f)) (hB : Has [] w w' (f n)) : Has o w0 w' (.all (n + 1) f) := by
  obtain ⟨fp, ⟨F, h, hd, hm⟩, hn, k⟩ := h
  obtain ⟨g, hg, hgn, k'⟩ := hB
  have hg' : ∀ x ∈ g, w.heap.size ≤ x := fun x hx => (hgn x hx).resolve_left (by simp)
  let F' : Nat → List Nat := fun j => if j = n then g else F j
  refine ⟨(List.range (n + 1)).flatMap F', ⟨F', ?_, ?_, fun x => by simp⟩, ?_, k.trans k' (by simp)⟩
  · intro j hj
    by_cases e : j = n
    · subst e
      simpa [F'] using hg
    · simp only [F', if_neg e]
      exact (f j).kept (h j (by omega)) k' (by simp)
  · intro a b ha hb hne x hx hx'
    by_cases ea : a = n
    · have eb : b ≠ n := by omega
      simp only [F', if_pos ea] at hx
      simp only [F', if_neg eb] at hx'
      have := hg' x hx
      have := (f b).lt (h b (by omega)) x hx'; omega
    · simp only [F', if_neg ea] at hx
      by_cases eb : b = n
      · simp only [F', if_pos eb] at hx'
        have := hg' x hx'
        have := (f a).lt (h a (by omega)) x hx; omega
      · simp only [F', if_neg eb] at hx'
        exact hd a b (by omega) (by omega) hne x hx hx'
  · intro x hx
    simp only [List.mem_flatMap, List.mem_range] at hx
    obtain ⟨j, hj, hx⟩ := hx
    by_cases e : j = n
    · simp only [F', if_pos e] at hx
      right; have := k.size; have := hg' x hx; omega
    · simp only [F', if_neg e] at hx
      exact hn x ((hm x).2 ⟨j, by omega, hx⟩)

theorem Has.congr (h : Has o w0 w (.all n f)) (e : ∀ i, i < n → f i = g i) : Has o w0 w (.all n g) := by
  refine h.mono ?_
  rintro fp ⟨F, h, hd, hm⟩
  exact ⟨F, fun i hi => e i hi ▸ h i hi, hd, hm⟩

theorem Has.nothing (f : Nat → Part) : Has [] w w (.all 0 f) := ⟨[], ⟨fun _ => [], fun i hi => by omega, fun i j hi => by omega, fun x => by simp⟩, by simp, Kept.refl _ _⟩

end Go.Proofs.Ytbankfdgoolbdaa
namespace Go.Proofs.Ytbankfdgoolbdaa
open Go Go.RowKit
set_option linter.unusedVariables false
variable {P : Program}

/-- What an append leaves: the row, and where it lies. -/
structure Appended (w w' : World) (e : TypeId) (size : Nat) (v v' : Value) (n : Nat) (xs : List Value) : Prop where
  row : w'.ownsRow 0 e size v' n xs
  grown : w.grownBy w' v.ownBlock
  place : v'.ownBlock = v.ownBlock ∨ v'.ownBlock = some w.heap.size

theorem run_append_new (w : World) (t ty e : TypeId) (i : TypeInfo) (z : Value) (size bytes : Nat) (ht : P.underlying t = some (.slice e)) (hi : P.info? e = some i) (hz : i.zero = some z)
    (hsize : i.size = size) (hby : i.bytes = bytes) (hzs : z.cells.size = size) (hsz : 0 < size)
    (v : Value) (n : Nat) (xs : List Value) (hown : w.ownsRow 0 e size v n xs)
    (a : Addr) (m c : Nat) (news : List Value) (hl : news.length = m * size) (hnews : ∀ j u, news[j]? = some u → w.cell? (a.add j) = some u) (h1 : ∀ u ∈ news, u.oneCell' = true)
    (h63 : n + m ≤ maxLen) (hbytes : (n + m) * bytes ≤ 140737488355328) :
    ∃ v' w', (Builtin.append_ #[t, t] ty #[v, .slice (some a) m c]).run P w = .ok v' w' ∧ Appended w w' e size v v' (n + m) (xs ++ news) := by
  obtain ⟨v', w', hr, h2, h3, h4⟩ := run_append_own (P := P) w 0 t ty e i z size bytes ht hi hz hsize hby hzs hsz v n xs hown a m c news hl hnews h1 h63 hbytes (Nat.zero_le _)
  refine ⟨v', w', hr, h2, h3, ?_⟩
  have hmx : n + m ≤ 9223372036854775807 := by simp only [maxLen] at h63; omega
  rcases hown.2 with ⟨rfl, rfl⟩ | ⟨g, cap, cur, rfl, hbg, hg, hnc, hcm, hcs, htake⟩
  · by_cases hm : m = 0
    · left; rw [h4.2 ⟨rfl, hm⟩]
    · right
      have hr' := run_append_nil (P := P) w t ty e i z ht hi hz a m c news (by rw [hsize]; exact hl) hnews (by omega) (by omega) (by rw [hby]; simp only [Nat.zero_add] at hbytes; omega)
      rw [hr'] at hr
      cases hr
      rfl
  · by_cases hroom : n + m ≤ cap
    · left
      obtain ⟨w'', hr', _⟩ := run_append_fits (P := P) w 0 t ty e i size ht hi hsize g n cap xs hown a m c news hl hnews h1 hroom
      rw [hr'] at hr
      cases hr
      rfl
    · right
      have holds : ∀ j u, xs[j]? = some u → w.cell? ((⟨g, 0, none⟩ : Addr).add j) = some u := hown.cells (g := g) rfl
      have hr' := run_append_grow (P := P) w t ty e i z ht hi hz ⟨g, 0, none⟩ n cap xs (by rw [hsize]; exact hown.1) holds a m c news (by rw [hsize]; exact hl) hnews (by omega) (by omega) (by rw [hby]; exact growslice_fits (by omega) hbytes)
      rw [hr'] at hr
      cases hr
      rfl

theorem wpList_append_new {w : World} {ops : Array Oper} {rest : List Oper} {o : Oper} {a : Act} {Q : Exit → Act → World → Prop} (hgd : o.guard = none) (s x : Operand) (t : TypeId)
    (ho : o.op = .call { callee := .builtin .append, args := #[s, x], argTypes := #[t, t] })
    (e : TypeId) (i : TypeInfo) (z : Value) (size bytes : Nat) (ht : P.underlying t = some (.slice e)) (hi : P.info? e = some i) (hz : i.zero = some z)
    (hsize : i.size = size) (hby : i.bytes = bytes) (hzs : z.cells.size = size) (hsz : 0 < size)
    (v : Value) (n : Nat) (xs : List Value) (hs : a.eval s = v) (hown : w.ownsRow 0 e size v n xs)
    (ad : Addr) (m c : Nat) (news : List Value) (hx : a.eval x = .slice (some ad) m c) (hl : news.length = m * size) (hnews : ∀ j u, news[j]? = some u → w.cell? (ad.add j) = some u) (h1 : ∀ u ∈ news, u.oneCell' = true)
    (h63 : n + m ≤ maxLen) (hbytes : (n + m) * bytes ≤ 140737488355328)
    (h : ∀ v' w', Appended w w' e size v v' (n + m) (xs ++ news) → wpList P ops Q rest (a.put o.dst v') w') : wpList P ops Q (o :: rest) a w := by
  refine wpList_plain hgd fun K hK => ?_
  obtain ⟨v', w', hr, h2⟩ := run_append_new (P := P) w t o.type e i z size bytes ht hi hz hsize hby hzs hsz v n xs hown ad m c news hl hnews h1 h63 hbytes
  unfold Oper.wp execOp
  simp only [ho, resolve, invoke, builtin, Sem.run_bind, Sem.run_pure, Result.andThen_ok, List.map_toArray, List.map_cons, List.map_nil, hs, hx, hr]
  exact hK _ _ (h v' w' h2)

theorem cell_one (w : World) (n : Nat) (x : Value) (t : TypeId) (hn : n = w.heap.size) : ∀ j u, [x][j]? = some u → (w.alloc (.cells #[x] t)).cell? ((⟨n, 0, none⟩ : Addr).add j) = some u := by
  subst hn
  intro j u hu
  cases j with
  | zero =>
    simp at hu
    subst hu
    have h := Blk.made w #[x] t (fun _ => x) 1 rfl (fun i hi => by obtain rfl : i = 0 := by omega
                                                                   rfl)
    exact h.cell (i := 0) (by omega)
  | succ j => simp at hu

/-- A row of one-cell elements that isn't empty, spelt out. -/
theorem row_out {w : World} {e : TypeId} {v : Value} {n : Nat} {xs : List Value} (h : w.ownsRow 0 e 1 v n xs) (hn : 0 < n) :
    ∃ g cap, v = .slice (some ⟨g, 0, none⟩) n cap ∧ n ≤ cap ∧ cap ≤ maxLen ∧ g < w.heap.size ∧ (∀ i, w.frozen? ⟨g, i, none⟩ = false) ∧ ∀ i u, xs[i]? = some u → w.cell? ⟨g, i, none⟩ = some u := by
  rcases h.2 with ⟨_, h0⟩ | ⟨g, cap, cur, rfl, _, hg, hnc, hcm, hcs, htake⟩
  · omega
  · refine ⟨g, cap, rfl, hnc, hcm, (Array.getElem?_eq_some_iff.1 hg).1, fun i => by simp [World.frozen?, hg], fun i u hu => ?_⟩
    have := h.cells (g := g) rfl i u hu
    simp only [Addr.add] at this
    split at this
    · rename_i e0; subst e0; simpa using this
    · simpa using this

end Go.Proofs.Ytbankfdgoolbdaa
namespace Go.Proofs.Ytbankfdgoolbdaa
open Go Go.RowKit
set_option linter.unusedVariables false

/-- A store into a row of the call's own. -/
theorem row_put {w : World} {e : TypeId} {g n cap : Nat} {xs : List Value} (h : w.ownsRow 0 e 1 (.slice (some ⟨g, 0, none⟩) n cap) n xs) (k : Nat) (u : Value) (hk : k < n) :
    (w.setCell ⟨g, k, none⟩ u).ownsRow 0 e 1 (.slice (some ⟨g, 0, none⟩) n cap) n (xs.set k u) := by
  obtain ⟨hl, h1 | ⟨g', cap', cur, hv', h0, hg, h2, h3, h4, h5⟩⟩ := h
  · cases h1.1
  · cases hv'
    refine ⟨by simpa using hl, .inr ⟨g, cap, cur.setIfInBounds k u, rfl, Nat.zero_le _, ?_, h2, h3, by simpa using h4, ?_⟩⟩
    · simp [World.setCell, Array.getElem?_modify, hg]
    · simp only [Array.toList_setIfInBounds]
      rw [← h5, Nat.mul_one, List.take_set]

/-- A store elsewhere. -/
theorem row_other {w : World} {e : TypeId} {n : Nat} {v : Value} {xs : List Value} (h : w.ownsRow 0 e 1 v n xs) {a : Addr} (u : Value) (hne : v.ownBlock ≠ some a.block) : (w.setCell a u).ownsRow 0 e 1 v n xs := by
  obtain ⟨hl, h1 | ⟨g', cap', cur, rfl, h0, hg, h2, h3, h4, h5⟩⟩ := h
  · exact ⟨hl, .inl h1⟩
  · refine ⟨hl, .inr ⟨g', cap', cur, rfl, h0, ?_, h2, h3, h4, h5⟩⟩
    rw [Below.heap_setCell w a u g' (fun e => hne (by simp [Value.ownBlock, e]))]
    exact hg

/-- A row, spelt out: empty, or a slice with its cells. -/
theorem row_val {w : World} {e : TypeId} {v : Value} {n : Nat} {xs : List Value} (h : w.ownsRow 0 e 1 v n xs) :
    (v = .slice none 0 0 ∧ n = 0) ∨ ∃ g cap, v = .slice (some ⟨g, 0, none⟩) n cap ∧ n ≤ cap ∧ cap ≤ maxLen ∧ g < w.heap.size ∧ (∀ i, w.frozen? ⟨g, i, none⟩ = false) ∧ ∀ i u, xs[i]? = some u → w.cell? ⟨g, i, none⟩ = some u := by
  rcases h.2 with ⟨h1, h0⟩ | ⟨g, cap, cur, rfl, _, hg, hnc, hcm, hcs, htake⟩
  · exact .inl ⟨h1, h0⟩
  · refine .inr ⟨g, cap, rfl, hnc, hcm, (Array.getElem?_eq_some_iff.1 hg).1, fun i => by simp [World.frozen?, hg], fun i u hu => ?_⟩
    have := h.cells (g := g) rfl i u hu
    simp only [Addr.add] at this
    split at this
    · rename_i e0; subst e0; simpa using this
    · simpa using this

end Go.Proofs.Ytbankfdgoolbdaa
namespace Go.Proofs.Ytbankfdgoolbdaa
open Go Go.RowKit
set_option linter.unusedVariables false
variable {o : List Nat} {w0 w w' : World} {A B C : Part} {fp : List Nat} {n : Nat} {f g : Nat → Part}

/-- One part holds another one. -/
def Part.Imp (A B : Part) : Prop := ∀ w fp, A.at_ w fp → ∃ fp', B.at_ w fp' ∧ ∀ x ∈ fp', x ∈ fp

theorem Has.weaken (h : Has o w0 w A) (i : A.Imp B) : Has o w0 w B := by
  obtain ⟨fp, hA, hn, k⟩ := h
  obtain ⟨fp', hB, hs⟩ := i w fp hA
  exact ⟨fp', hB, fun x hx => hn x (hs x hx), k⟩

theorem Part.Imp.refl (A : Part) : A.Imp A := fun w fp h => ⟨fp, h, fun _ h => h⟩
theorem Part.Imp.fst (A B : Part) : (A.sep B).Imp A := by
  rintro w fp ⟨f, g, hA, hB, hd, rfl⟩
  exact ⟨f, hA, fun x hx => by simp [hx]⟩
theorem Part.Imp.snd (A B : Part) : (A.sep B).Imp B := by
  rintro w fp ⟨f, g, hA, hB, hd, rfl⟩
  exact ⟨g, hB, fun x hx => by simp [hx]⟩
theorem Part.Imp.trans {A B C : Part} (h : A.Imp B) (h' : B.Imp C) : A.Imp C := by
  intro w fp hA
  obtain ⟨f1, hB, s1⟩ := h w fp hA
  obtain ⟨f2, hC, s2⟩ := h' w f1 hB
  exact ⟨f2, hC, fun x hx => s1 x (s2 x hx)⟩
theorem Part.Imp.sep {A B A' B' : Part} (h : A.Imp A') (h' : B.Imp B') : (A.sep B).Imp (A'.sep B') := by
  rintro w fp ⟨f, g, hA, hB, hd, rfl⟩
  obtain ⟨f1, hA', s1⟩ := h w f hA
  obtain ⟨g1, hB', s2⟩ := h' w g hB
  refine ⟨f1 ++ g1, ⟨f1, g1, hA', hB', fun x hx hx' => hd x (s1 x hx) (s2 x hx'), rfl⟩, fun x hx => ?_⟩
  rcases List.mem_append.1 hx with h | h
  · simp [s1 x h]
  · simp [s2 x h]
theorem Part.Imp.all (h : ∀ i, i < n → (f i).Imp (g i)) : (Part.all n f).Imp (Part.all n g) := by
  rintro w fp ⟨F, hF, hd, hm⟩
  have hex : ∀ i, ∃ l, i < n → (g i).at_ w l ∧ ∀ x ∈ l, x ∈ F i := by
    intro i
    by_cases hi : i < n
    · obtain ⟨l, h1, h2⟩ := h i hi w (F i) (hF i hi)
      exact ⟨l, fun _ => ⟨h1, h2⟩⟩
    · exact ⟨[], fun h => absurd h hi⟩
  obtain ⟨G, hG⟩ := Classical.axiomOfChoice hex
  refine ⟨(List.range n).flatMap G, ⟨G, fun i hi => (hG i hi).1, fun i j hi hj hne x hx hx' => hd i j hi hj hne x ((hG i hi).2 x hx) ((hG j hj).2 x hx'), fun x => by simp⟩, ?_⟩
  intro x hx
  simp only [List.mem_flatMap, List.mem_range] at hx
  obtain ⟨i, hi, hx⟩ := hx
  exact (hm x).2 ⟨i, hi, (hG i hi).2 x hx⟩

/-- A row's numbers, as they are read. -/
def RowAt (w : World) (v : Value) (n : Nat) (xs : Nat → Value) : Prop :=
  ∃ p cap, v = .slice p n cap ∧ (0 < n → ∃ b off, p = some ⟨b, off, none⟩ ∧ b < w.heap.size ∧ ∀ i, i < n → w.cell? ⟨b, off + i, none⟩ = some (xs i))

theorem RowAt.kept {own : List Nat} {v : Value} {xs : Nat → Value} (h : RowAt w v n xs) (k : Kept own w w') (hown : ∀ x ∈ own, w.heap.size ≤ x) : RowAt w' v n xs := by
  obtain ⟨p, cap, rfl, h3⟩ := h
  refine ⟨p, cap, rfl, fun hp => ?_⟩
  obtain ⟨b, off, rfl, hb, hc⟩ := h3 hp
  exact ⟨b, off, rfl, Nat.lt_of_lt_of_le hb k.size, fun i hi => k.cell (hc i hi) fun m => by have := hown b m; omega⟩

theorem rowAt_of {e : TypeId} {v : Value} {xs : List Value} (h : w.ownsRow 0 e 1 v n xs) (f : Nat → Value) (hf : ∀ i, i < n → xs[i]? = some (f i)) : RowAt w v n f := by
  rcases row_val h with ⟨h1, h0⟩ | ⟨g, cap, h1, _, _, hg, _, hc⟩
  · exact ⟨none, 0, by rw [h1, h0], fun h => by omega⟩
  · exact ⟨_, cap, h1, fun _ => ⟨g, 0, rfl, hg, fun i hi => by rw [Nat.zero_add]; exact hc i _ (hf i hi)⟩⟩

theorem Has.rowAt {e : TypeId} {v : Value} {xs : List Value} (h : Has o w0 w (.row e 1 v n xs)) (f : Nat → Value) (hf : ∀ i, i < n → xs[i]? = some (f i)) : RowAt w v n f := by
  obtain ⟨fp, ⟨hr, _⟩, _⟩ := h
  exact rowAt_of hr f hf

/-- An append to a row of the call's own. -/
theorem Has.appendRow {w5 : World} {m len : Nat} {e : TypeId} {v v' : Value} {xs news : List Value} (ob : Obj)
    (h : Has o w0 w (.row e 1 v len xs)) (happ : Appended (w.alloc ob) w5 e 1 v v' (len + m) (xs ++ news)) :
    Has o w0 w5 (.row e 1 v' (len + m) (xs ++ news)) := by
  obtain ⟨fp, ⟨hr, rfl⟩, hn, k⟩ := h
  have k1 : Kept (rowsOf v) w w5 := ((Kept.refl _ w).alloc ob).grown happ.grown fun b _ e => by simp [mem_rowsOf, e]
  refine Has.step hn k ⟨rowsOf v', ⟨happ.row, rfl⟩, ?_, k1⟩
  intro x hx
  rw [mem_rowsOf] at hx ⊢
  rcases happ.place with e | e
  · rw [e] at hx; exact .inl hx
  · rw [e] at hx
    simp only [Option.some.injEq] at hx
    right
    have : (w.alloc ob).heap.size = w.heap.size + 1 := by simp
    omega

/-- A store into a row of the call's own. -/
theorem Has.setRow {gb cap len : Nat} {e : TypeId} {xs : List Value} (h : Has o w0 w (.row e 1 (.slice (some ⟨gb, 0, none⟩) len cap) len xs)) (k : Nat) (u : Value) (hk : k < len) :
    Has o w0 (w.setCell ⟨gb, k, none⟩ u) (.row e 1 (.slice (some ⟨gb, 0, none⟩) len cap) len (xs.set k u)) := by
  obtain ⟨fp, ⟨hr, rfl⟩, hn, k0⟩ := h
  refine Has.step hn k0 ⟨_, ⟨row_put hr k u hk, rfl⟩, fun x hx => .inl hx, (Kept.refl _ w).set _ (by simp [rowsOf, Value.ownBlock])⟩

/-- A cell of a row that may be stored to. -/
theorem Has.rowCell {gb cap len : Nat} {e : TypeId} {xs : List Value} (h : Has o w0 w (.row e 1 (.slice (some ⟨gb, 0, none⟩) len cap) len xs)) (k : Nat) (u : Value) (hk : xs[k]? = some u) :
    w.cell? ⟨gb, k, none⟩ = some u ∧ w.frozen? ⟨gb, k, none⟩ = false := by
  obtain ⟨fp, ⟨hr, rfl⟩, hn, k0⟩ := h
  rcases row_val hr with ⟨h1, h0⟩ | ⟨g, cap', h1, _, _, hg, hf, hc⟩
  · cases h1
  · cases h1
    exact ⟨hc k u hk, hf k⟩

/-- A row just made. -/
theorem Has.made (e : TypeId) (cs : Array Value) (h : cs.size ≤ maxLen) : Has [] w (w.alloc (.cells cs e)) (.row e 1 (.slice (some ⟨w.heap.size, 0, none⟩) cs.size cs.size) cs.size cs.toList) := by
  refine ⟨[w.heap.size], ⟨?_, rfl⟩, by simp, (Kept.refl [] w).alloc _⟩
  exact World.ownsRow_lit w cs cs.size (Nat.zero_le _) h (by simp)

theorem Has.madeBlk (cs : Array Value) (T : TypeId) (f : Nat → Value) (m : Nat) (hn : cs.size = m) (hf : ∀ i, i < m → cs[i]? = some (f i)) : Has [] w (w.alloc (.cells cs T)) (.blk w.heap.size m T f) :=
  ⟨[w.heap.size], ⟨Blk.made w cs T f m hn hf, rfl⟩, by simp, (Kept.refl [] w).alloc _⟩

end Go.Proofs.Ytbankfdgoolbdaa
namespace Go.Proofs.Ytbankfdgoolbdaa
open Go Go.RowKit
set_option linter.unusedVariables false
variable {o : List Nat} {w0 w w' : World} {A B : Part} {fp : List Nat} {n k : Nat}

theorem addr0 (b i : Nat) : (⟨b, 0, none⟩ : Addr).add i = ⟨b, i, none⟩ := by
  simp only [Addr.add]
  split
  · rename_i h; subst h; rfl
  · simp

theorem rowN_open {e : TypeId} {size : Nat} {v : Value} {xs : List Value} (h : w.ownsRow 0 e size v n xs) :
    (v = .slice none 0 0 ∧ n = 0) ∨ ∃ g cap, v = .slice (some ⟨g, 0, none⟩) n cap ∧ n ≤ cap ∧ cap ≤ maxLen ∧ g < w.heap.size ∧ (∀ i, w.frozen? ⟨g, i, none⟩ = false) ∧ ∀ i u, xs[i]? = some u → w.cell? ⟨g, i, none⟩ = some u := by
  rcases h.2 with ⟨h1, h0⟩ | ⟨g, cap, cur, rfl, _, hg, hnc, hcm, hcs, htake⟩
  · exact .inl ⟨h1, h0⟩
  · refine .inr ⟨g, cap, rfl, hnc, hcm, (Array.getElem?_eq_some_iff.1 hg).1, fun i => by simp [World.frozen?, hg], fun i u hu => ?_⟩
    have := h.cells (g := g) rfl i u hu
    rwa [addr0] at this

theorem rowN_store {e : TypeId} {size g cap : Nat} {xs : List Value} (h : w.ownsRow 0 e size (.slice (some ⟨g, 0, none⟩) n cap) n xs) (j : Nat) (u : Value) :
    (w.setCell ⟨g, j, none⟩ u).ownsRow 0 e size (.slice (some ⟨g, 0, none⟩) n cap) n (xs.set j u) := by
  obtain ⟨hl, h1 | ⟨g', cap', cur, hv', h0, hg, h2, h3, h4, h5⟩⟩ := h
  · cases h1.1
  · cases hv'
    refine ⟨by simpa using hl, .inr ⟨g, cap, cur.setIfInBounds j u, rfl, Nat.zero_le _, ?_, h2, h3, by simpa using h4, ?_⟩⟩
    · simp [World.setCell, Array.getElem?_modify, hg]
    · simp only [Array.toList_setIfInBounds]
      rw [← h5, List.take_set]

theorem Has.rowStore {g cap len size : Nat} {e : TypeId} {xs : List Value} (h : Has o w0 w (.row e size (.slice (some ⟨g, 0, none⟩) len cap) len xs)) (j : Nat) (u : Value) :
    Has o w0 (w.setCell ⟨g, j, none⟩ u) (.row e size (.slice (some ⟨g, 0, none⟩) len cap) len (xs.set j u)) := by
  obtain ⟨fp, ⟨hr, rfl⟩, hn, k0⟩ := h
  exact Has.step hn k0 ⟨_, ⟨rowN_store hr j u, rfl⟩, fun x hx => .inl hx, (Kept.refl _ w).set _ (by simp [rowsOf, Value.ownBlock])⟩

theorem Has.rowAppend {w5 : World} {m len size : Nat} {e : TypeId} {v v' : Value} {xs news : List Value} (ob : Obj)
    (h : Has o w0 w (.row e size v len xs)) (happ : Appended (w.alloc ob) w5 e size v v' (len + m) (xs ++ news)) :
    Has o w0 w5 (.row e size v' (len + m) (xs ++ news)) := by
  obtain ⟨fp, ⟨hr, rfl⟩, hn, k⟩ := h
  have k1 : Kept (rowsOf v) w w5 := ((Kept.refl _ w).alloc ob).grown happ.grown fun b _ e => by simp [mem_rowsOf, e]
  refine Has.step hn k ⟨rowsOf v', ⟨happ.row, rfl⟩, ?_, k1⟩
  intro x hx
  rw [mem_rowsOf] at hx ⊢
  rcases happ.place with e | e
  · rw [e] at hx; exact .inl hx
  · rw [e] at hx
    simp only [Option.some.injEq] at hx
    right
    have : (w.alloc ob).heap.size = w.heap.size + 1 := by simp
    omega

/-- Elements laid one behind the other. -/
def flatN (n : Nat) (f : Nat → List Value) : List Value := (List.range n).flatMap f

theorem flatN_succ (n : Nat) (f : Nat → List Value) : flatN (n + 1) f = flatN n f ++ f n := by
  unfold flatN
  rw [List.range_succ, List.flatMap_append, List.flatMap_singleton]

theorem flatN_len {f : Nat → List Value} (hk : ∀ i, (f i).length = k) (n : Nat) : (flatN n f).length = n * k := by
  induction n with
  | zero => simp [flatN]
  | succ n ih => rw [flatN_succ, List.length_append, ih, hk, Nat.succ_mul]

theorem flatN_congr {f g : Nat → List Value} (h : ∀ i, i < n → f i = g i) : flatN n f = flatN n g := by
  induction n with
  | zero => rfl
  | succ n ih => rw [flatN_succ, flatN_succ, ih fun i hi => h i (by omega), h n (by omega)]

theorem flatN_get {f : Nat → List Value} (hk : ∀ i, (f i).length = k) {i j : Nat} (hi : i < n) (hj : j < k) : (flatN n f)[i * k + j]? = (f i)[j]? := by
  induction n with
  | zero => omega
  | succ n ih =>
    rw [flatN_succ]
    have hl := flatN_len hk n
    by_cases e : i < n
    · have : (i + 1) * k ≤ n * k := Nat.mul_le_mul_right k e
      rw [List.getElem?_append_left (by rw [hl]; rw [Nat.succ_mul] at this; omega)]
      exact ih e
    · obtain rfl : i = n := by omega
      rw [List.getElem?_append_right (by rw [hl]; omega), hl]
      congr 1
      omega

theorem flatN_set {f : Nat → List Value} (hk : ∀ i, (f i).length = k) {i j : Nat} (hi : i < n) (hj : j < k) (u : Value) : (flatN n f).set (i * k + j) u = flatN n (fun d => if d = i then (f i).set j u else f d) := by
  induction n with
  | zero => omega
  | succ n ih =>
    rw [flatN_succ, flatN_succ]
    have hl := flatN_len hk n
    by_cases e : i < n
    · have : (i + 1) * k ≤ n * k := Nat.mul_le_mul_right k e
      rw [List.set_append_left _ _ (by rw [hl]; rw [Nat.succ_mul] at this; omega), ih e, if_neg (by omega)]
    · obtain rfl : i = n := by omega
      rw [List.set_append_right _ _ (by rw [hl]; omega), hl, if_pos rfl, flatN_congr (g := fun d => if d = i then (f i).set j u else f d) fun d hd => by rw [if_neg (by omega)]]
      congr 2
      omega

noncomputable def Part.rows (e : TypeId) (k : Nat) (v : Value) (n : Nat) (f : Nat → List Value) : Part := .row e k v n (flatN n f)

theorem rows_congr {e : TypeId} {v : Value} {f g : Nat → List Value} (h : ∀ i, i < n → f i = g i) : Part.rows e k v n f = Part.rows e k v n g := by
  unfold Part.rows
  rw [flatN_congr h]

theorem Has.rowsOwn {e : TypeId} {v : Value} {f : Nat → List Value} (h : Has o w0 w (.rows e k v n f)) : w.ownsRow 0 e k v n (flatN n f) := by
  obtain ⟨fp, ⟨hr, _⟩, _⟩ := h
  exact hr

theorem Has.rowsSlice {e : TypeId} {v : Value} {f : Nat → List Value} (h : Has o w0 w (.rows e k v n f)) : ∃ p c, v = .slice p n c := by
  rcases rowN_open h.rowsOwn with ⟨e, h0⟩ | ⟨g, c, e, _⟩
  · exact ⟨none, 0, by rw [h0]; exact e⟩
  · exact ⟨_, c, e⟩

theorem Has.rowsSmall {e : TypeId} {v : Value} {f : Nat → List Value} (h : Has o w0 w (.rows e k v n f)) : n ≤ maxLen := by
  rcases rowN_open h.rowsOwn with ⟨e, h0⟩ | ⟨g, c, e, h1, h2, _⟩
  · rw [h0]; exact Nat.zero_le _
  · exact Nat.le_trans h1 h2

/-- An element's cells, and stores to them. -/
theorem Has.rowsAt {e : TypeId} {v : Value} {f : Nat → List Value} (h : Has o w0 w (.rows e k v n f)) (hk : ∀ i, (f i).length = k) {i : Nat} (hi : i < n) :
    ∃ g cap, v = .slice (some ⟨g, 0, none⟩) n cap ∧ (∀ j u, (f i)[j]? = some u → w.cell? ⟨g, i * k + j, none⟩ = some u) ∧ (∀ j, w.frozen? ⟨g, j, none⟩ = false) ∧
      ∀ j u, j < k → Has o w0 (w.setCell ⟨g, i * k + j, none⟩ u) (.rows e k v n (fun d => if d = i then (f i).set j u else f d)) := by
  rcases rowN_open h.rowsOwn with ⟨e, h0⟩ | ⟨g, cap, rfl, _, _, _, hf, hc⟩
  · omega
  · refine ⟨g, cap, rfl, fun j u hu => hc _ _ ?_, hf, fun j u hj => ?_⟩
    · have hj : j < k := by rw [← hk i]; exact (List.getElem?_eq_some_iff.1 hu).1
      rw [flatN_get hk hi hj, hu]
    · have := Has.rowStore h (i * k + j) u
      rwa [flatN_set hk hi hj u] at this

/-- One more element. -/
theorem Has.rowsMore {w5 : World} {e : TypeId} {v v' : Value} {f : Nat → List Value} {x : List Value} (ob : Obj) (h : Has o w0 w (.rows e k v n f)) (happ : Appended (w.alloc ob) w5 e k v v' (n + 1) (flatN n f ++ x)) :
    Has o w0 w5 (.rows e k v' (n + 1) (fun d => if d = n then x else f d)) := by
  have := Has.rowAppend ob h happ
  unfold Part.rows
  rw [flatN_succ, if_pos rfl, flatN_congr (g := f) fun i hi => if_neg (by omega)]
  exact this

theorem Has.rowsNil (w : World) (e : TypeId) (k : Nat) (f : Nat → List Value) : Has [] w w (.rows e k (.slice none 0 0) 0 f) := ⟨[], ⟨World.ownsRow_nil _ _ _ _, by simp [rowsOf, Value.ownBlock]⟩, by simp, Kept.refl _ _⟩

/-- A part whose content is hidden. -/
def Part.ex {α : Type} (f : α → Part) : Part where
  at_ w fp := ∃ a, (f a).at_ w fp
  lt := by rintro w fp ⟨a, h⟩ x hx; exact (f a).lt h x hx
  kept := by rintro own w w' fp ⟨a, h⟩ k hn; exact ⟨a, (f a).kept h k hn⟩

/-- A part of which something is so. -/
def Part.when (p : Prop) (A : Part) : Part where
  at_ w fp := p ∧ A.at_ w fp
  lt := by rintro w fp ⟨_, h⟩ x hx; exact A.lt h x hx
  kept := by rintro own w w' fp ⟨hp, h⟩ k hn; exact ⟨hp, A.kept h k hn⟩

theorem Has.exOut {α : Type} {f : α → Part} (h : Has o w0 w (.ex f)) : ∃ a, Has o w0 w (f a) := by
  obtain ⟨fp, ⟨a, h⟩, hn, k⟩ := h
  exact ⟨a, fp, h, hn, k⟩
theorem Has.exIn {α : Type} {f : α → Part} (a : α) (h : Has o w0 w (f a)) : Has o w0 w (.ex f) := by
  obtain ⟨fp, h, hn, k⟩ := h
  exact ⟨fp, ⟨a, h⟩, hn, k⟩
theorem Has.whenOut {p : Prop} (h : Has o w0 w (.when p A)) : p ∧ Has o w0 w A := by
  obtain ⟨fp, ⟨hp, h⟩, hn, k⟩ := h
  exact ⟨hp, fp, h, hn, k⟩
theorem Has.whenIn {p : Prop} (hp : p) (h : Has o w0 w A) : Has o w0 w (.when p A) := by
  obtain ⟨fp, h, hn, k⟩ := h
  exact ⟨fp, ⟨hp, h⟩, hn, k⟩

/-- A block's cells, and stores to them. -/
theorem Has.blkAt {b : Nat} {T : TypeId} {f : Nat → Value} (h : Has o w0 w (.blk b n T f)) {i : Nat} (hi : i < n) :
    w.cell? ⟨b, i, none⟩ = some (f i) ∧ w.frozen? ⟨b, i, none⟩ = false ∧ ∀ u, Has o w0 (w.setCell ⟨b, i, none⟩ u) (.blk b n T (upd f i u)) := by
  obtain ⟨fp, ⟨hb, rfl⟩, hn, k⟩ := h
  exact ⟨hb.cell hi, hb.free i, fun u => Has.step hn k ⟨[b], ⟨hb.set i u, rfl⟩, fun x hx => .inl hx, (Kept.refl _ w).set _ (by simp)⟩⟩
end Go.Proofs.Ytbankfdgoolbdaa
namespace Go.Proofs.Ytbankfdgoolbdaa
open Go Go.RowKit Go.Maps Go.WideMaps
set_option linter.unusedVariables false

abbrev Nm := List UInt8

section
variable {α β : Type}

/-- What stands under a name. -/
def alFind (l : List (Nm × α)) (s : Nm) : Option α := (l.find? fun p => p.1 == s).map (·.2)
def alIns (x : Nm × α) : List (Nm × α) → List (Nm × α)
  | [] => [x]
  | y :: r => if bytesBefore x.1 y.1 then x :: y :: r else y :: alIns x r
def alDel (l : List (Nm × α)) (s : Nm) : List (Nm × α) := l.filter fun p => !(p.1 == s)
def alPut (l : List (Nm × α)) (s : Nm) (v : α) : List (Nm × α) := alIns (s, v) (alDel l s)

def alMap (f : α → β) (l : List (Nm × α)) : List (Nm × β) := l.map fun p => (p.1, f p.2)

theorem alMap_find (f : α → β) (l : List (Nm × α)) (s : Nm) : alFind (alMap f l) s = (alFind l s).map f := by
  unfold alFind alMap
  induction l with
  | nil => rfl
  | cons x r ih =>
    simp only [List.map_cons, List.find?_cons]
    cases h : x.1 == s with
    | true => rfl
    | false => exact ih
theorem alMap_ins (f : α → β) (x : Nm × α) (l : List (Nm × α)) : alMap f (alIns x l) = alIns (x.1, f x.2) (alMap f l) := by
  induction l with
  | nil => rfl
  | cons y r ih =>
    show alMap f (if bytesBefore x.1 y.1 then x :: y :: r else y :: alIns x r) = (if bytesBefore x.1 y.1 then (x.1, f x.2) :: (y.1, f y.2) :: alMap f r else (y.1, f y.2) :: alIns (x.1, f x.2) (alMap f r))
    split
    · rfl
    · rw [← ih]; rfl
theorem alMap_del (f : α → β) (l : List (Nm × α)) (s : Nm) : alMap f (alDel l s) = alDel (alMap f l) s := by
  unfold alMap alDel
  rw [List.filter_map]
  rfl
theorem alMap_put (f : α → β) (l : List (Nm × α)) (s : Nm) (v : α) : alMap f (alPut l s v) = alPut (alMap f l) s (f v) := by
  unfold alPut
  rw [alMap_ins, alMap_del]
theorem alMap_length (f : α → β) (l : List (Nm × α)) : (alMap f l).length = l.length := by simp [alMap]
theorem alMap_congr {f g : α → β} {l : List (Nm × α)} (h : ∀ p ∈ l, f p.2 = g p.2) : alMap f l = alMap g l := by
  unfold alMap
  exact List.map_congr_left fun p hp => by rw [h p hp]

theorem alIns_length (x : Nm × α) (l : List (Nm × α)) : (alIns x l).length = l.length + 1 := by
  induction l with
  | nil => rfl
  | cons y r ih => unfold alIns; split <;> simp [ih]
theorem alDel_length (l : List (Nm × α)) (s : Nm) : (alDel l s).length ≤ l.length := List.length_filter_le _ _
theorem alPut_length (l : List (Nm × α)) (s : Nm) (v : α) : (alPut l s v).length ≤ l.length + 1 := by
  unfold alPut
  rw [alIns_length]
  have := alDel_length l s
  omega
theorem mem_alIns {x y : Nm × α} {l : List (Nm × α)} : y ∈ alIns x l ↔ y = x ∨ y ∈ l := by
  induction l with
  | nil => simp [alIns]
  | cons z r ih =>
    unfold alIns
    split
    · simp
    · simp only [List.mem_cons, ih]
      constructor
      · rintro (h | h | h)
        · exact .inr (.inl h)
        · exact .inl h
        · exact .inr (.inr h)
      · rintro (h | h | h)
        · exact .inr (.inl h)
        · exact .inl h
        · exact .inr (.inr h)
theorem mem_alPut {s : Nm} {v : α} {y : Nm × α} {l : List (Nm × α)} : y ∈ alPut l s v ↔ y = (s, v) ∨ (y ∈ l ∧ y.1 ≠ s) := by
  unfold alPut alDel
  rw [mem_alIns, List.mem_filter]
  simp
theorem alFind_mem {l : List (Nm × α)} {s : Nm} {v : α} (h : alFind l s = some v) : (s, v) ∈ l := by
  unfold alFind at h
  cases h1 : l.find? (fun p => p.1 == s) with
  | none => rw [h1] at h; cases h
  | some p =>
    rw [h1] at h
    simp only [Option.map_some, Option.some.injEq] at h
    have h2 := List.find?_some h1
    have h3 := List.mem_of_find?_eq_some h1
    simp only [beq_iff_eq] at h2
    obtain ⟨a, b⟩ := p
    simp only at h h2
    rw [← h, ← h2]
    exact h3
end

/-! ### a map in memory -/
def anyElem (v : Value) : Option (DataW Value × List MemPlace) := some (.held v, [])
def dmapL (l : List (Nm × Value)) : List (Lit × DataW Value) := l.map fun p => (Lit.string p.1, DataW.held p.2)
def dmap (l : List (Nm × Value)) : DataW Value := .map (dmapL l)

theorem sameKey_str (a b : Nm) : (Lit.string a).sameKey (.string b) = (a == b) := rfl

theorem dmap_at (l : List (Nm × Value)) (s : Nm) (z : DataW Value) : (dmap l).atKey (.string s) z = ((alFind l s).map DataW.held).getD z := by
  show DataW.atKey (.map (dmapL l)) (.string s) z = _
  unfold DataW.atKey alFind dmapL
  induction l with
  | nil => rfl
  | cons x r ih =>
    simp only [List.map_cons, List.find?_cons, sameKey_str]
    cases h : x.1 == s with
    | true => rfl
    | false => exact ih
theorem dmap_ins (x : Nm × Value) (l : List (Nm × Value)) : DataW.insert (Lit.string x.1, DataW.held x.2) (dmapL l) = dmapL (alIns x l) := by
  induction l with
  | nil => rfl
  | cons y r ih =>
    show (if bytesBefore x.1 y.1 then _ else _) = dmapL (if bytesBefore x.1 y.1 then _ else _)
    split
    · rfl
    · rw [show dmapL (y :: alIns x r) = (Lit.string y.1, DataW.held y.2) :: dmapL (alIns x r) from rfl, ← ih]; rfl
theorem dmap_filter (l : List (Nm × Value)) (s : Nm) : (dmapL l).filter (fun p => !p.1.sameKey (.string s)) = dmapL (alDel l s) := by
  unfold dmapL alDel
  rw [List.filter_map]
  rfl
theorem dmap_put (l : List (Nm × Value)) (s : Nm) (v : Value) : (dmap l).put (.string s) (.held v) = dmap (alPut l s v) := by
  show DataW.map (DataW.insert (.string s, .held v) ((dmapL l).filter fun p => !p.1.sameKey (.string s))) = _
  rw [dmap_filter, dmap_ins (s, v)]
  rfl
theorem dmap_del (l : List (Nm × Value)) (s : Nm) : (dmap l).del (.string s) = dmap (alDel l s) := by
  show DataW.map ((dmapL l).filter fun p => !p.1.sameKey (.string s)) = _
  rw [dmap_filter]
  rfl
theorem dmap_size (l : List (Nm × Value)) : Maps.size (dmap l) = l.length := by simp [dmap, dmapL, Maps.size]

/-- Block b is a map of strings that holds l. -/
def MapAt (w : World) (b : Nat) (l : List (Nm × Value)) : Prop := w.ownsMap Try.prog 9 anyElem b l.length (dmap l)

theorem mapAt_of {w : World} {b n : Nat} {l : List (Nm × Value)} (h : w.ownsMap Try.prog 9 anyElem b n (dmap l)) : MapAt w b l := by
  obtain ⟨es, clock, hb, F, hs, hD⟩ := h
  refine ⟨es, clock, hb, F, ?_, hD⟩
  have : dmapL l = (es.toList.map (WideElems.rg Try.prog 9 anyElem)).foldr DataW.insert [] := by
    have := hD
    simp only [dmap, DataW.map.injEq] at this
    exact this
  have e : l.length = es.size := by
    have h1 : (dmapL l).length = l.length := by simp [dmapL]
    rw [← h1, this, length_sorted]
    simp
  omega

theorem MapAt.lt {w : World} {b : Nat} {l : List (Nm × Value)} (h : MapAt w b l) : b < w.heap.size := World.ownsMap.lt h

theorem MapAt.of_heap {w w' : World} {b : Nat} {l : List (Nm × Value)} (h : MapAt w b l) (e : w'.heap[b]? = w.heap[b]?) : MapAt w' b l := by
  obtain ⟨es, clock, hb, F, hs, hD⟩ := h
  exact ⟨es, clock, by rw [e, hb], F, hs, hD⟩

/-- A map as a part. -/
def Part.map (b : Nat) (l : List (Nm × Value)) : Part where
  at_ w fp := MapAt w b l ∧ fp = [b]
  lt := by rintro w fp ⟨h, rfl⟩ x hx; simp at hx; subst hx; exact h.lt
  kept := by rintro own w w' fp ⟨h, rfl⟩ k hn; exact ⟨h.of_heap (k.block b h.lt (hn b (by simp))), rfl⟩

variable {o : List Nat} {w0 w w' : World} {b : Nat} {l : List (Nm × Value)}

theorem Has.mapAt (h : Has o w0 w (.map b l)) : MapAt w b l := by
  obtain ⟨fp, ⟨hm, _⟩, _⟩ := h
  exact hm

theorem strKeyed : Keyed Try.prog 9 := string_keyed Try.underlying9
theorem zeroPtr (w : World) : (zeroValue 69).run Try.prog w = .ok (.pointer none) w := by kernel_rfl

/-- What a look-up answers. -/
theorem MapAt.look (h : MapAt w b l) (s : ByteArray) (hs : s.size ≤ maxLen) :
    (Instr.lookup 60 (.map (some b)) (.string s) false).run Try.prog w = .ok ((alFind l s.data.toList).getD (.pointer none)) w := by
  obtain ⟨v, ps, hrun, hv⟩ := World.ownsMap.lookup h strKeyed Try.underlying60 (zeroPtr w) (zd := .held (.pointer none)) (zp := []) rfl (keyOf_string_mk Try.underlying9 hs)
  rw [hrun]
  rw [dmap_at] at hv
  unfold anyElem at hv
  simp only [Option.some.injEq, Prod.mk.injEq] at hv
  cases h1 : alFind l s.data.toList with
  | none => rw [h1] at hv; have := hv.1; simp at this; rw [this]; rfl
  | some u => rw [h1] at hv; have := hv.1; simp at this; rw [this]; rfl

theorem MapAt.len (h : MapAt w b l) (ty : TypeId) : (Builtin.len_ #[60] ty #[.map (some b)]).run Try.prog w = .ok (.int .i64 l.length) w := by
  rw [World.ownsMap.len h Try.underlying60 ty, dmap_size]

theorem kept_grown {b : Nat} (g : w.grownBy w' (some b)) : Kept [b] w w' :=
  ⟨g.os, g.tape, g.output, g.size, fun k hk hn => g.block k hk fun e => hn (by cases e; simp)⟩

theorem Has.mapStore (h : Has o w0 w (.map b l)) (s : ByteArray) (hs : s.size ≤ maxLen) (hn : l.length < maxLen) (v : Value) :
    ∃ w', (Instr.mapUpdate 60 (.map (some b)) (.string s) v).run Try.prog w = .ok () w' ∧ Has o w0 w' (.map b (alPut l s.data.toList v)) ∧ Kept [b] w w' := by
  obtain ⟨fp, ⟨hm, rfl⟩, hn', k⟩ := h
  obtain ⟨w', hrun, h1, h2⟩ := World.ownsMap.store hm strKeyed Try.underlying60 hn (keyOf_string_mk Try.underlying9 hs) (val := v) rfl
  rw [dmap_put] at h1
  have k' := kept_grown h2.grown
  exact ⟨w', hrun, Has.step hn' k ⟨[b], ⟨mapAt_of h1, rfl⟩, fun x hx => .inl hx, k'⟩, k'⟩

theorem Has.mapDrop (h : Has o w0 w (.map b l)) (s : ByteArray) (hs : s.size ≤ maxLen) (ty : TypeId) :
    ∃ w', (Builtin.delete_ #[60, 9] ty #[.map (some b), .string s]).run Try.prog w = .ok (.tuple #[]) w' ∧ Has o w0 w' (.map b (alDel l s.data.toList)) ∧ Kept [b] w w' := by
  obtain ⟨fp, ⟨hm, rfl⟩, hn', k⟩ := h
  obtain ⟨w', hrun, h1, h2⟩ := World.ownsMap.drop hm strKeyed Try.underlying60 (keyOf_string_mk Try.underlying9 hs) ty
  rw [dmap_del] at h1
  have k' := kept_grown h2.grown
  exact ⟨w', hrun, Has.step hn' k ⟨[b], ⟨mapAt_of h1, rfl⟩, fun x hx => .inl hx, k'⟩, k'⟩

theorem Has.madeMap (w : World) : Has [] w (w.alloc (.map #[] 0)) (.map w.heap.size []) :=
  ⟨[w.heap.size], ⟨World.ownsMap_made w _ _ _, rfl⟩, by simp, (Kept.refl [] w).alloc _⟩

end Go.Proofs.Ytbankfdgoolbdaa
